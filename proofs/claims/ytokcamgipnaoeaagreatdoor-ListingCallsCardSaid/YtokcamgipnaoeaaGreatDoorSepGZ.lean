/- Several texts, one behind the other. -/
import Derived.Test.YtokcamgipnaoeaaGreatDoorSepP
import Derived.Laws.MakeOwn
import Derived.ScopeJumps
import Derived.Laws.CopyRow
set_option linter.unusedVariables false
set_option linter.unusedSimpArgs false
namespace Go.Proofs.YtokcamgipnaoeaaGreatDoor.SL
open Go Go.RowKit
section
variable {P : Program} {ops : Array Oper} {Q : Exit → Act → World → Prop} {s : St} {E : Env} {M : Hp}
def EndsG (s : St) (E : Env) (M : Hp) (d : Nat) (v : Value) : Exit → Act → World → Prop := fun e a w => e = .normal ∧ Sat s ((d, v) :: E) M a w
theorem upon_swap {F : Fence} {n : Nat} {o : Oper} {a : Act} {K K' : Act → World → Prop} {Q' : Exit → Act → World → Prop} (hQ : ∀ e a w, Q' e a w → e = .normal) (h : ∀ a w, K a w → K' a w)
    {r : Result Next} (hh : o.uponIn F n P a K Q' r) : o.uponIn F n P a K' Q r := by
  have hnl : ¬ LetsOut Q' := fun ⟨a, w, h⟩ => by cases hQ _ _ _ h
  cases r with
  | ok x w' =>
    cases x <;> simp only [Oper.uponIn] at hh ⊢
    case value v => exact h _ _ hh
    case skip => exact h _ _ hh
    case defer d => exact h _ _ hh
    case enter f args =>
      refine ⟨hh.1, CallsIn.mono hh.2 (fun e w'' he => ?_)⟩
      cases e with
      | returned u => exact h _ _ he
      | panicked c => cases hQ _ _ _ he
      | outgrown => exact absurd he hnl
    case row row args => exact ⟨hh.1, RowsIn.mono hh.2 (fun _ _ he => h _ _ he)⟩
    case round l f tmps assign body =>
      refine ⟨hh.1, RoundIn.mono hh.2 (fun e w'' he => ?_)⟩
      cases e with
      | returned u => exact h _ _ he
      | panicked c => cases hQ _ _ _ he
      | outgrown => exact absurd he hnl
  | halt x w' =>
    cases x <;> simp only [Oper.uponIn] at hh ⊢
    case panic u => cases hQ _ _ _ hh
theorem list_swap {F : Fence} {n : Nat} {Q' : Exit → Act → World → Prop} (hQ : ∀ e a w, Q' e a w → e = .normal) : ∀ (l1 : List Oper) {l2 : List Oper} {a : Act} {w : World},
    wpListIn F n P ops Q' l1 a w → (∀ a w, Q' .normal a w → wpListIn F n P ops Q l2 a w) → wpListIn F n P ops Q (l1 ++ l2) a w
  | [], _, _, _, h, k => k _ _ h
  | o :: l1, l2, a, w, h, k => by
    rw [List.cons_append]
    unfold wpListIn at h ⊢
    split
    · rename_i hw
      rw [if_pos hw] at h
      unfold Oper.wpIn at h ⊢
      exact ⟨h.1, upon_swap hQ (fun a w h => list_swap hQ l1 h k) h.2⟩
    · rename_i hw
      rw [if_neg hw] at h
      exact ⟨h.1, list_swap hQ l1 h.2 k⟩
/-- The first n operations make slot d, the others are left behind. -/
theorem L.cut (n : Nat) {l : List Oper} {d : Nat} {v : Value} (h : L P ops (EndsG s E M d v) (l.take n) s E M) (k : L P ops Q (l.drop n) s ((d, v) :: E) M) : L P ops Q l s E M := by
  intro a w hs
  rw [← List.take_append_drop n l]
  exact list_swap (fun _ _ _ h => h.1) _ (h a w hs) (fun a w h => k a w h.2)
theorem Sat.known {c : Nat} {b b' : Bool} (hc : lk E c = some (.bool b)) (e : b = b') {a : Act} {w : World} (h : Sat s E M a w) : Sat s ((c, .bool b') :: E) M a w := by
  subst e
  exact ⟨h.at_, h.defers, h.size, fun i u hi => by
    rcases lk_put hi with ⟨rfl, rfl⟩ | ⟨_, hi⟩
    · exact h.env _ _ hc
    · exact h.env _ _ hi⟩
theorem Sat.unknown {c d : Nat} {v : Value} {b b' : Bool} (hc : lk E c = some (.bool b)) (e : b = b') {a : Act} {w : World} (h : Sat s ((d, v) :: (c, .bool b') :: E) M a w) : Sat s ((d, v) :: E) M a w := by
  subst e
  refine ⟨h.at_, h.defers, h.size, fun i u hi => h.env _ _ ?_⟩
  rcases lk_put hi with ⟨rfl, rfl⟩ | ⟨hne, hi⟩
  · unfold lk; split
    · rfl
    · rename_i hb; exact absurd rfl (Nat.ne_of_beq_eq_false hb)
  · unfold lk; split
    · rename_i hb; exact absurd (Nat.eq_of_beq_eq_true hb).symm hne
    · unfold lk; split
      · rename_i hb
        have := Nat.eq_of_beq_eq_true hb
        subst this
        rw [hc] at hi; exact hi
      · exact hi
theorem L.orB (n : Nat) {l : List Oper} {b1 b2 : Bool} {d c t : Nat} {pos : String} {af : Array Edge} {y : Operand} {g : Option (Nat × Bool)} {o : Oper} {l' : List Oper} {j : Nat × Bool}
    (_hh : l = o :: l' := by exact rfl) (_hg : o.guard = some j := by exact rfl) (_hl : l[n]? = some ⟨some d, .pick (.tmp c) (.const (.bool true)) y, t, pos, af, g⟩ := by exact rfl) (hc : lk E c = some (.bool b1) := by exact rfl)
    (h1 : b1 = true → L P ops (EndsG s ((c, .bool true) :: E) M d (.bool true)) (l.take (n + 1)) s ((c, .bool true) :: E) M)
    (h2 : b1 = false → L P ops (EndsG s ((c, .bool false) :: E) M d (.bool b2)) (l.take (n + 1)) s ((c, .bool false) :: E) M)
    (k : L P ops Q (l.drop (n + 1)) s ((d, .bool (b1 || b2)) :: E) M) : L P ops Q l s E M := by
  intro a w hs
  rw [← List.take_append_drop (n + 1) l]
  cases hb : b1 with
  | true =>
    rw [hb] at k
    exact list_swap (fun _ _ _ h => h.1) _ (h1 hb a w (hs.known hc hb)) (fun a w h => k a w (Sat.unknown hc hb h.2))
  | false =>
    rw [hb] at k
    exact list_swap (fun _ _ _ h => h.1) _ (h2 hb a w (hs.known hc hb)) (fun a w h => k a w (Sat.unknown hc hb h.2))
theorem L.andB (n : Nat) {l : List Oper} {b1 b2 : Bool} {d c t : Nat} {pos : String} {af : Array Edge} {y : Operand} {g : Option (Nat × Bool)} {o : Oper} {l' : List Oper} {j : Nat × Bool}
    (_hh : l = o :: l' := by exact rfl) (_hg : o.guard = some j := by exact rfl) (_hl : l[n]? = some ⟨some d, .pick (.tmp c) y (.const (.bool false)), t, pos, af, g⟩ := by exact rfl) (hc : lk E c = some (.bool b1) := by exact rfl)
    (h1 : b1 = true → L P ops (EndsG s ((c, .bool true) :: E) M d (.bool b2)) (l.take (n + 1)) s ((c, .bool true) :: E) M)
    (h2 : b1 = false → L P ops (EndsG s ((c, .bool false) :: E) M d (.bool false)) (l.take (n + 1)) s ((c, .bool false) :: E) M)
    (k : L P ops Q (l.drop (n + 1)) s ((d, .bool (b1 && b2)) :: E) M) : L P ops Q l s E M := by
  intro a w hs
  rw [← List.take_append_drop (n + 1) l]
  cases hb : b1 with
  | true =>
    rw [hb] at k
    exact list_swap (fun _ _ _ h => h.1) _ (h1 hb a w (hs.known hc hb)) (fun a w h => k a w (Sat.unknown hc hb h.2))
  | false =>
    rw [hb] at k
    exact list_swap (fun _ _ _ h => h.1) _ (h2 hb a w (hs.known hc hb)) (fun a w h => k a w (Sat.unknown hc hb h.2))
theorem lk_skip : ∀ {E1 E : Env} (k : Nat) {i : Nat}, E1.drop k = E → ((E1.take k).any fun x => Nat.beq x.1 i) = false → lk E1 i = lk E i
  | E1, E, 0, i, h, _ => by rw [← h]; rfl
  | [], E, k + 1, i, h, _ => by rw [← h]; rfl
  | (j, u) :: E1, E, k + 1, i, h, hf => by
    simp only [List.take_succ_cons, List.any_cons, Bool.or_eq_false_iff] at hf
    have := lk_skip (E1 := E1) (E := E) k (i := i) h hf.2
    rw [← this]
    show (match Nat.beq j i with | true => some u | false => lk E1 i) = _
    rw [hf.1]
/-- The block is done: none of the slots known ahead was turned. -/
theorem D.endsG {E1 : Env} {d : Nat} {v : Value} {s' : St} (hd : lk E1 d = some v := by exact rfl) (hs : E1.drop (E1.length - E.length) = E := by kernel_rfl)
    (hf : (E.any fun y => (E1.take (E1.length - E.length)).any fun x => Nat.beq x.1 y.1) = false := by kernel_rfl) (he : s' = s := by exact rfl) : D (EndsG s E M d v) .normal s' E1 M := by
  subst he
  intro a w h
  refine ⟨rfl, h.at_, h.defers, h.size, fun i u hi => h.env i u ?_⟩
  rcases lk_put hi with ⟨rfl, rfl⟩ | ⟨hne, hi⟩
  · exact hd
  · rw [lk_skip (E1.length - E.length) (E := E) hs ?_]
    · exact hi
    · cases hc : ((E1.take (E1.length - E.length)).any fun x => Nat.beq x.1 i) with
      | false => rfl
      | true =>
        exfalso
        have : ∀ {E : Env} {u : Value}, lk E i = some u → ∃ y ∈ E, y.1 = i := by
          intro E
          induction E with
          | nil => intro u h; cases h
          | cons x r ih =>
            intro u h
            obtain ⟨j, q⟩ := x
            rcases lk_put h with ⟨rfl, _⟩ | ⟨_, h⟩
            · exact ⟨_, List.mem_cons_self, rfl⟩
            · obtain ⟨y, hy, e⟩ := ih h
              exact ⟨y, List.mem_cons_of_mem _ hy, e⟩
        obtain ⟨y, hy, rfl⟩ := this hi
        have := List.any_eq_false.1 hf y hy
        exact this hc
end
end Go.Proofs.YtokcamgipnaoeaaGreatDoor.SL
namespace Go.Proofs.YtokcamgipnaoeaaGreatDoor.SL
open Go Go.RowKit
section
variable {P : Program} {ops : Array Oper} {Q : Exit → Act → World → Prop} {s : St} {E : Env} {M : Hp} {rest : List Oper} {d t : Nat} {pos : String} {af : Array Edge}
def blA (n : Nat) : List Value → List (Nat × Value) → Option (List Value)
  | l, [] => some l
  | l, (i, v) :: r => match Nat.beq (cl v).length n, Nat.ble (i * n + n) l.length with
    | true, true => blA n (setL l (i * n) (cl v)) r
    | _, _ => none
theorem blA_fill {n : Nat} : ∀ {r : List (Nat × Value)} {l l' : List Value}, blA n l r = some l' → Instr.fill (fun i => some (i * n, n)) l.toArray r = some l'.toArray
  | [], l, l', h => by cases h; rfl
  | (i, v) :: r, l, l', h => by
    unfold blA at h
    split at h
    · rename_i h1 h2
      have h1' : v.cells.size = n := by have := Nat.eq_of_beq_eq_true h1; simpa [cl] using this
      have h2' := Nat.le_of_ble_eq_true h2
      unfold Instr.fill
      simp only [h1', List.size_toArray]
      rw [if_neg (by simp; omega)]
      have hz := zip_set (cl v) l (i * n) 0 (by rw [Nat.eq_of_beq_eq_true h1]; omega)
      have e : (v.cells.zipIdx.foldl (fun cs (x : Value × Nat) => cs.setIfInBounds (i * n + x.2) x.1) l.toArray) = (setL l (i * n) (cl v)).toArray := by
        rw [← Array.foldl_toList, Array.toList_zipIdx]; exact hz
      exact (congrArg (fun z => Instr.fill (fun i => some (i * n, n)) z r) e).trans (blA_fill h)
    · cases h
theorem L.buildA {T e len n : Nat} {parts : List (Nat × Operand)} {vs : List (Nat × Value)} {z : Value} {l l' : List Value} [hz : Zer P T z l] [hu : Und P T (.array len e)] [hS : Siz P e n] (hn : Nat.blt d s.n = true := by exact rfl) (hx : pvs E parts = some vs := by exact rfl) (hl : blA n l vs = some l' := by simp only [blA, cl, setL, Value.cells, List.getElem?_cons_zero, List.getElem?_cons_succ, List.length_cons, List.length_nil, List.set_cons_zero, List.set_cons_succ]; rfl)
    (c : L P ops Q rest s ((d, .agg l'.toArray) :: E) M) : L P ops Q (⟨some d, .build T parts.toArray, t, pos, af, none⟩ :: rest) s E M :=
  L.calm (S := fun ρ => Instr.build T (parts.toArray.map fun (i, x) => (i, ρ x))) hn (fun _ => rfl) (fun a w hs => by
    show (Instr.build T (parts.toArray.map fun (i, x) => (i, a.eval x))).run P w = _
    rw [List.map_toArray, pvs_map hs hx]
    unfold Instr.build
    rw [run_bind_ok (zer_run hz.out), run_bind_ok und_run]
    simp only
    rw [run_bind_ok (siz_run hS.out)]
    rw [hz.cells]
    have hb := blA_fill hl
    simp only [hb]; rfl) c
theorem L.indexG {T e len n k : Nat} {x y : Operand} {cs vs : List Value} {q : IntKind} {i : Int} [hT : Und P T (.array len e)] [hA : Agl P e] [hS : Siz P e n] (hi : i = (k : Int)) (hk : k < len) (hv : (cs.drop (k * n)).take n = vs)
    (hn : Nat.blt d s.n = true := by exact rfl) (hx : ev E x = some (.agg cs.toArray) := by exact rfl) (hy : ev E y = some (.int q i) := by exact rfl)
    (c : L P ops Q rest s ((d, .agg vs.toArray) :: E) M) : L P ops Q (⟨some d, .index T x y, t, pos, af, none⟩ :: rest) s E M :=
  L.calm (S := fun ρ => Instr.index T (ρ x) (ρ y)) hn (fun _ => rfl) (fun a w hs => by
    show (Instr.index T (a.eval x) (a.eval y)).run P w = _
    rw [hs.ev hx, hs.ev hy, hi]
    unfold Instr.index
    have e : (asIntOf (.int q (k : Int)) : Sem (IntKind × Int)).run P w = .ok (q, (k : Int)) w := rfl
    rw [run_bind_ok e]
    show Sem.run P (underlying T >>= _) w = _
    rw [run_bind_ok und_run]
    simp only
    rw [if_pos ⟨by omega, by omega⟩, run_bind_ok (siz_run hS.out)]
    obtain ⟨ds, hu, hg⟩ := hA.out
    have hu : Und P _ ds := ⟨hu⟩
    unfold part
    rw [run_bind_ok agg_run, hg]
    simp only [if_true]
    rw [run_bind_ok (siz_run hS.out)]
    rw [← hv]
    simp) c
theorem L.indexArr {T e len n k b o : Nat} {x y : Operand} {q : IntKind} {i : Int} [hT : Und P T (.array len e)] [hS : Siz P e n] (hi : i = (k : Int)) (hk : k < len)
    (hn : Nat.blt d s.n = true := by exact rfl) (hx : ev E x = some (.pointer (some ⟨b, o, none⟩)) := by exact rfl) (hy : ev E y = some (.int q i) := by exact rfl)
    (c : L P ops Q rest s ((d, .pointer (some ⟨b, o + k * n, none⟩)) :: E) M) : L P ops Q (⟨some d, .indexAddr T x y, t, pos, af, none⟩ :: rest) s E M :=
  L.val hn (fun a w hs => ⟨w, by
    refine run_value (s := Instr.indexAt T (a.eval x) (a.eval y)) ?_
    rw [hs.ev hx, hs.ev hy, hi]
    unfold Instr.indexAt
    simp [Sem.run_bind, run_underlying hT.out, asIntOf, Result.andThen, hk, siz_run hS.out, add_at, Instr.sureAddr], hs.at_⟩) c
/-- A branch of unknown truth: what is found out is told of the slot. -/
theorem C.condE {x y : Code} {c : Nat} {b : Bool} (hv : lk E c = some (.bool b) := by exact rfl) (h1 : b = true → C P x Q s ((c, .bool true) :: E) M) (h2 : b = false → C P y Q s ((c, .bool false) :: E) M) : C P (.cond (.tmp c) x y) Q s E M :=
  fun a w hs => C.cond (v := .tmp c) (t := b) (E := E) hv (fun h a w hs => h1 h a w (hs.known hv h)) (fun h a w hs => h2 h a w (hs.known hv h)) a w hs
theorem C.yesH {x y : Code} {v : Operand} {b : Bool} (hv : ev E v = some (.bool b) := by exact rfl) (hb : b = true := by with_reducible assumption) (h1 : C P x Q s E M) : C P (.cond v x y) Q s E M :=
  C.cond hv (fun _ => h1) (fun h => by rw [hb] at h; cases h)
theorem C.noH {x y : Code} {v : Operand} {b : Bool} (hv : ev E v = some (.bool b) := by exact rfl) (hb : b = false := by with_reducible assumption) (h1 : C P y Q s E M) : C P (.cond v x y) Q s E M :=
  C.cond hv (fun h => by rw [hb] at h; cases h) (fun _ => h1)
end
end Go.Proofs.YtokcamgipnaoeaaGreatDoor.SL
namespace Go.Proofs.YtokcamgipnaoeaaGreatDoor.SL
open Go Go.RowKit
section
variable {P : Program} {ops : Array Oper} {Q : Exit → Act → World → Prop} {s : St} {E : Env} {M : Hp} {rest : List Oper} {d t : Nat} {pos : String} {af : Array Edge}
theorem made_one (z : Value) (m : Nat) : madeCells #[z] (m * 1) = (List.replicate m z).toArray := by
  apply Array.ext
  · simp [madeCells]
  · intro i h1 h2
    simp [madeCells, Nat.mod_one]
theorem L.makeZ {T e m bs : Nat} {z : Value} {x y : Operand} {q q' : IntKind} {i : Int} [hT : Und P T (.slice e)] [hR : Row P e 1 bs] [hz : Zer P e z [z]] (hi : i = (m : Int)) (hb : bs * m ≤ 281474976710656) (h63 : m ≤ maxLen)
    (hd : Nat.blt d s.n = true := by exact rfl) (hx : ev E x = some (.int q i) := by exact rfl) (hy : ev E y = some (.int q' i) := by exact rfl)
    (c : ∀ b, L P ops Q rest s ((d, .slice (some ⟨b, 0, none⟩) m m) :: E) ((b, ob (List.replicate m z) e) :: M)) : L P ops Q (⟨some d, .makeSlice T x y, t, pos, af, none⟩ :: rest) s E M := by
  refine L.newB (f := fun b => .slice (some ⟨b, 0, none⟩) m m) (o := ob (List.replicate m z) e) hd ?_ c
  intro a w hs
  show Sem.run P (do pure (Next.value (← Instr.makeSlice T (a.eval x) (a.eval y)))) w = _
  refine run_value ?_
  rw [hs.ev hx, hs.ev hy, hi]
  obtain ⟨inf, z', h1, h2, h3, h4, h5, h6⟩ := hR.out
  have hz1 : z' = z := by
    have := hz.out
    rw [h1] at this
    simp only [Option.bind_some, h2] at this
    cases this; rfl
  subst hz1
  have h63' : (m : Int) ≤ 9223372036854775807 := by
    have h := h63
    simp [maxLen] at h
    omega
  have hb' : (inf.bytes : Int) * (m : Int) ≤ 281474976710656 := by
    have h : ((inf.bytes * m : Nat) : Int) ≤ 281474976710656 := by rw [h4]; omega
    rwa [Int.natCast_mul] at h
  have hr := run_make (P := P) w T e inf z' hT.out h1 h2 q q' m m (by omega) (Int.le_refl _) hb' h63'
  simp only [Int.toNat_natCast, h3, hz.cells] at hr
  rw [made_one] at hr
  exact hr
/-- A cell of an own block, wherever it is. -/
theorem L.storeK (i : Nat) {x y : Operand} {T T' b o k : Nat} {l : List Value} {v : Value} [hz : Siz P T 1] (hk : k < l.length) (ho : o = k) (hx : ev E x = some (.pointer (some ⟨b, o, none⟩)) := by exact rfl) (hy : ev E y = some v := by exact rfl) (hi : hat M i = some (b, ob l T') := by exact rfl)
    (hc : v.cells = [v].toArray := by exact rfl) (h1 : oneB v = true := by exact rfl) {M' : Hp} (hM : hset M i (ob (l.set k v) T') = M' := by simp only [hset]; rfl)
    (c : L P ops Q rest s E M') : L P ops Q (⟨none, .store T x y, t, pos, af, none⟩ :: rest) s E M := by
  subst ho
  exact L.storeV i (vs := [v]) (l' := l.set o v) hx hy hi hc rfl (by simp [h1]) (Nat.ble_eq_true_of_le hk) rfl hM c
theorem L.loadK (i : Nat) {x : Operand} {T T' b o k : Nat} {l : List Value} {v : Value} {ds : TypeDesc} [Und P T ds] (hv : l[k]? = some v) (ho : o = k) (hn : Nat.blt d s.n = true := by exact rfl) (hx : ev E x = some (.pointer (some ⟨b, o, none⟩)) := by exact rfl) (hi : hat M i = some (b, ob l T') := by exact rfl)
    (hg : aggB ds = false := by exact rfl) (c : L P ops Q rest s ((d, v) :: E) M) : L P ops Q (⟨some d, .load T x, t, pos, af, none⟩ :: rest) s E M := by
  subst ho
  exact L.load1 i hn hx hi hg hv c
end
end Go.Proofs.YtokcamgipnaoeaaGreatDoor.SL
namespace Go.Proofs.YtokcamgipnaoeaaGreatDoor.SL
open Go Go.RowKit
section
variable {P : Program} {ops : Array Oper} {Q : Exit → Act → World → Prop} {s : St} {E : Env} {M : Hp} {rest : List Oper} {d t : Nat} {pos : String} {af : Array Edge}
/-- An own slice is cut: its block stays as it is. -/
theorem L.cutU {T e sz n m k : Nat} {x : Operand} {y z : Option Operand} {cs : List Value} {o : OS} [hT : Und P T (.slice e)] [hS : Siz P e sz] (hG : osG n m cs o) (hk : k ≤ m) (hz : ∃ o q, z = some o ∧ ev E o = some (.int q (k : Int)))
    (hd : Nat.blt d s.n = true := by exact rfl) (hx : ev E x = some (osV m o) := by exact rfl) (hy : (y = none ∧ 0 = 0) ∨ ∃ o q, y = some o ∧ ev E o = some (.int q ((0 : Nat) : Int)) := by exact .inl ⟨rfl, rfl⟩)
    (c : osG n k (cs.take (k * n)) o → L P ops Q rest s ((d, osV k o) :: E) M) : L P ops Q (⟨some d, .slice T x y z none, t, pos, af, none⟩ :: rest) s E M := by
  have hc : SlV (osV m o) m := hG.sl
  obtain ⟨p, cap, hv, hc, hp⟩ := hc
  have hh := fun (a : Act) (w : World) (hs : Sat s E M a w) => bounds_run (P := P) (w := w) (sl := true) (n := m) (cap := cap) (opt_ev hs hy) (opt_ev (k := m) hs (.inr hz)) (Nat.zero_le _) (Nat.le_trans hk hc)
  have hval : (Value.slice (if cap = 0 then p else p.map (·.add (0 * sz))) (k - 0) (cap - 0)) = osV k o := by
    rcases o with _ | ⟨b, l, cap'⟩
    · obtain ⟨rfl, rfl⟩ := hG
      simp only [osV] at hv ⊢
      cases hv
      simp; omega
    · simp only [osV] at hv ⊢
      cases hv
      simp [add_at]
  refine L.calm (S := fun ρ => Instr.sliceAt T (ρ x) (y.map ρ) (z.map ρ) none) (v := osV k o) hd (fun _ => rfl) (fun a w hs => ?_) (c ?_)
  · show (Instr.sliceAt T (a.eval x) (y.map a.eval) (z.map a.eval) none).run P w = _
    rw [hs.ev hx, hv]
    unfold Instr.sliceAt
    rw [run_bind_ok und_run]
    simp only
    unfold Instr.slice
    rw [run_bind_ok und_run]
    simp only
    refine (run_bind_ok (hh a w hs)).trans ?_
    simp only
    rw [run_bind_ok (siz_run hS.out), ← hval]
    rfl
  · rcases o with _ | ⟨b, l, cap'⟩
    · obtain ⟨rfl, rfl⟩ := hG
      exact ⟨by omega, by simp⟩
    · obtain ⟨h1, h2, h3, h4⟩ := hG
      refine ⟨h1, by omega, h3, ?_⟩
      rw [← h4, List.take_take, Nat.min_eq_left (Nat.mul_le_mul_right _ hk)]
/-- A drawn region that makes memory, and turns none of one's own. -/
theorem C.makeA {id : Nat} {l : List Oper} (hE2 : e3B l E = true := by kernel_rfl) (hm : P.follows .mixedOrders = true := by kernel_rfl)
    (h : QP P l.toArray Q M s M l [] E) : C P (.region id l.toArray true) Q s E M := C.make M hE2 hm h
end
end Go.Proofs.YtokcamgipnaoeaaGreatDoor.SL
namespace Go.Proofs.YtokcamgipnaoeaaGreatDoor.SL
open Go Go.RowKit
def qOkA (ops : Array Oper) : Bool := (List.range ops.size).all fun i => match ops[i]? with
  | none => false
  | some o => o.dst.isSome && plainOp o.op && o.after.all (fun e => !Region.binds .any e || Nat.blt e.on i) &&
    (o.looksAt ops).all (fun x => (List.range ops.size).all fun j => match ops[j]? with
      | some p => p.dst != some x || ((o.after.any fun e => Region.binds .any e && e.on == j) || j == i || (Nat.blt i j && (ancs ops ops.size (edgesOf p)).contains i))
      | none => true) &&
    (List.range ops.size).all (fun j => j == i || match ops[j]? with
      | some p => p.dst != o.dst
      | none => true)
section
variable {P : Program} {ops : Array Oper} {Q : Exit → Act → World → Prop} {s : St} {E : Env} {M : Hp}
theorem QL.anyA {l : List Oper} {E0 : Env} (hq : qOkA l.toArray = true) (hE : ∀ i v, lk E0 i = some v → i < s.n) (h : QL P l.toArray Q l s E0 M) : N P l.toArray Q l.length (Array.replicate l.length false) s E0 M := by
  obtain ⟨vs, hvl, hfin, hstep⟩ := h.vals
  have hq' : ∀ (i : Nat) (o : Oper), l[i]? = some o → plainOp o.op = true ∧ (∀ e ∈ o.after, Region.binds .any e = true → e.on < i) ∧
      (∀ x ∈ o.looksAt l.toArray, ∀ (j : Nat) (p : Oper), l[j]? = some p → p.dst = some x → (∃ e ∈ o.after, Region.binds .any e = true ∧ e.on = j) ∨ j = i ∨ (i < j ∧ i ∈ ancs l.toArray l.length (edgesOf p))) ∧ (∀ (j : Nat) (p : Oper), l[j]? = some p → j ≠ i → p.dst ≠ o.dst) := by
    intro i o hi
    unfold qOkA at hq
    have hlt : i < l.length := (List.getElem?_eq_some_iff.1 hi).1
    have h1 := List.all_eq_true.1 hq i (by simpa using hlt)
    simp only [List.getElem?_toArray, hi, Bool.and_eq_true] at h1
    obtain ⟨⟨⟨⟨_, g1⟩, g2⟩, g3⟩, g4⟩ := h1
    refine ⟨g1, fun e he hb => ?_, fun x hx j p hj hp => ?_, fun j p hj hne => ?_⟩
    · have := Array.all_eq_true'.1 g2 e he
      simpa [hb, Nat.blt_eq] using this
    · have h2 := List.all_eq_true.1 (List.all_eq_true.1 g3 x hx) j (by simpa using (List.getElem?_eq_some_iff.1 hj).1)
      simp only [hj, hp, bne_self_eq_false, Bool.false_or, Bool.or_eq_true] at h2
      rcases h2 with (h2 | h2) | h2
      · obtain ⟨e, he, hb⟩ := Array.any_eq_true'.1 h2
        simp only [Bool.and_eq_true, beq_iff_eq] at hb
        exact .inl ⟨e, he, hb.1, hb.2⟩
      · exact .inr (.inl (by simpa using h2))
      · rw [Bool.and_eq_true] at h2
        exact .inr (.inr ⟨by simpa [Nat.blt_eq] using h2.1, by simpa using h2.2⟩)
    · have h2 := List.all_eq_true.1 g4 j (by simpa using (List.getElem?_eq_some_iff.1 hj).1)
      simp only [hj, Bool.or_eq_true, beq_iff_eq, hne, false_or, bne_iff_ne] at h2
      exact h2
  have hdst : ∀ (i : Nat) (o : Oper) (v : Value), l[i]? = some o → vs[i]? = some v → ∃ d, o.dst = some d ∧ d < s.n := fun i o v h1 h2 => by
    obtain ⟨d, g1, g2, _⟩ := hstep i o v h1 h2; exact ⟨d, g1, g2⟩
  have hval : ∀ (i : Nat) (o : Oper), l[i]? = some o → ∃ v, vs[i]? = some v := fun i o hi => by
    have hlt : i < vs.length := by rw [hvl]; exact (List.getElem?_eq_some_iff.1 hi).1
    exact ⟨vs[i], List.getElem?_eq_getElem hlt⟩
  -- different operations have different slots
  have hdif : ∀ (i : Nat) (j : Nat) (o : Oper) (p : Oper), l[i]? = some o → l[j]? = some p → j ≠ i → p.dst.getD 0 ≠ o.dst.getD 0 := by
    intro i j o p hi hj hne
    obtain ⟨v, hv⟩ := hval i o hi
    obtain ⟨u, hu⟩ := hval j p hj
    obtain ⟨d, hd, _⟩ := hdst i o v hi hv
    obtain ⟨e, he, _⟩ := hdst j p u hj hu
    have := (hq' i o hi).2.2.2 j p hj hne
    rw [hd, he] at this
    rw [hd, he]
    exact fun h => this (congrArg some h)
  have main : ∀ (fuel : Nat) (listed : Array Bool) (a : Act) (w : World), listed.size = l.length → (un l.length listed).length ≤ fuel → At s.w0 s.A M w → a.defers = s.dl → a.tmps.size = s.n →
      (∀ x v, lk E0 x = some v → (∀ (j : Nat) (o : Oper), l[j]? = some o → o.dst.getD 0 = x → listed.getD j true = false) → a.tmps[x]? = some v) →
      (∀ (j : Nat) (o : Oper) (v : Value), l[j]? = some o → vs[j]? = some v → listed.getD j true = true → a.tmps[o.dst.getD 0]? = some v) → (∀ (j : Nat) (o : Oper), l[j]? = some o → listed.getD j true = true → ∀ e ∈ edgesOf o, listed.getD e true = true) →
      wpAnyIn (fen s.ro) 0 P .any l.toArray Q fuel listed a w := by
    intro fuel
    have fin : ∀ (listed : Array Bool) (a : Act) (w : World), (∀ j, j < l.length → listed.getD j true = true) → At s.w0 s.A M w → a.defers = s.dl → a.tmps.size = s.n →
      (∀ x v, lk E0 x = some v → (∀ (j : Nat) (o : Oper), l[j]? = some o → o.dst.getD 0 = x → listed.getD j true = false) → a.tmps[x]? = some v) →
      (∀ (j : Nat) (o : Oper) (v : Value), l[j]? = some o → vs[j]? = some v → listed.getD j true = true → a.tmps[o.dst.getD 0]? = some v) → Q .normal a w := by
      intro listed a w hall hw hdl hsz hb hv
      refine hfin a w ⟨hw, hdl, hsz, fun x v hx => ?_⟩
      rcases lk_tEnv hvl.symm hx with ⟨j, o, h1, rfl, h3⟩ | ⟨h1, h2⟩
      · exact hv j o v h1 h3 (hall j (List.getElem?_eq_some_iff.1 h1).1)
      · exact hb x v h2 (fun j o hj e => absurd e (h1 j o hj))
    have hready : ∀ (listed : Array Bool), listed.size = l.length → Region.ready .any l.toArray listed = [] → ∀ j, j < l.length → listed.getD j true = true := by
      intro listed hsz hr j
      induction j using Nat.strongRecOn with
      | _ j ih =>
        intro hj
        cases hl : listed.getD j true with
        | true => rfl
        | false =>
          exfalso
          have ho : l[j]? = some l[j] := List.getElem?_eq_getElem hj
          have : j ∈ Region.ready .any l.toArray listed := by
            unfold Region.ready
            refine List.mem_filter.2 ⟨by simpa using hj, ?_⟩
            simp only [hl, List.getElem?_toArray, ho, Option.map_some, Option.getD_some, Bool.not_false, Bool.true_and]
            refine Array.all_eq_true'.2 fun e he => ?_
            cases hb : Region.binds .any e with
            | false => rfl
            | true =>
              have hlt := (hq' j _ ho).2.1 e he hb
              have h2 := ih e.on hlt (by omega)
              rw [Array.getD_eq_getD_getElem?] at h2 ⊢
              rw [Array.getElem?_eq_getElem (by omega)] at h2 ⊢
              simpa using h2
          rw [hr] at this; cases this
    induction fuel with
    | zero =>
      intro listed a w hsz hun hw hdl hts hb hv hcl
      have hall : ∀ j, j < l.length → listed.getD j true = true := by
        intro j hj
        cases hl : listed.getD j true with
        | true => rfl
        | false =>
          have : j ∈ un l.length listed := List.mem_filter.2 ⟨List.mem_range.2 hj, by rw [hl]; rfl⟩
          have := List.length_pos_of_mem this
          omega
      refine ⟨?_, fin listed a w hall hw hdl hts hb hv⟩
      unfold Region.ready
      refine List.filter_eq_nil_iff.2 fun j hj => ?_
      rw [hall j (by simpa using hj)]; simp
    | succ fuel ih =>
      intro listed a w hsz hun hw hdl hts hb hv hcl
      refine ⟨fun hr => fin listed a w (hready listed hsz hr) hw hdl hts hb hv, fun i hi => ?_⟩
      unfold Region.ready at hi
      obtain ⟨hir, hi⟩ := List.mem_filter.1 hi
      have hlt : i < l.length := by simpa using hir
      have ho : l[i]? = some l[i] := List.getElem?_eq_getElem hlt
      obtain ⟨o, hoe⟩ : ∃ (o : Oper), o = l[i] := ⟨_, rfl⟩
      rw [← hoe] at ho
      simp only [List.getElem?_toArray, ho, Option.map_some, Option.getD_some, Bool.and_eq_true, Bool.not_eq_true'] at hi
      obtain ⟨hun_i, hafter⟩ := hi
      obtain ⟨v, hvi⟩ := hval i o ho
      obtain ⟨d, hd, hdn, hL⟩ := hstep i o v ho hvi
      obtain ⟨q1, q2, q3, q4⟩ := hq' i o ho
      have hdeps : ∀ e ∈ o.after, Region.binds .any e = true → listed.getD e.on true = true := by
        intro e he hbd
        have := Array.all_eq_true'.1 hafter e he
        simp only [hbd, Bool.not_true, Bool.false_or] at this
        have hlt2 := q2 e he hbd
        rw [Array.getD_eq_getD_getElem?] at this ⊢
        rw [Array.getElem?_eq_getElem (by omega)] at this ⊢
        simpa using this
      -- where the text's order would stand
      obtain ⟨Ei, hEi⟩ : ∃ Ei, Ei = tEnv (l.take i) (vs.take i) E0 := ⟨_, rfl⟩
      rw [← hEi] at hL
      have htl : (l.take i).length = (vs.take i).length := by rw [List.length_take, List.length_take, hvl]
      have hlt_of : ∀ x u, lk Ei x = some u → x < s.n := by
        intro x u hx
        rw [hEi] at hx
        rcases lk_tEnv htl hx with ⟨j, p, h1, rfl, h3⟩ | ⟨_, h2⟩
        · rw [List.getElem?_take] at h1 h3
          split at h1
          · rename_i hji
            rw [if_pos hji] at h3
            obtain ⟨e, he, hen⟩ := hdst j p u h1 h3
            rw [he]; exact hen
          · cases h1
        · exact hE x u h2
      obtain ⟨a', ha'⟩ : ∃ a' : Act, a' = { a with tmps := Array.ofFn (n := s.n) fun k => (lk Ei k.1).getD (a.tmps.getD k.1 undef) } := ⟨_, rfl⟩
      have ht' : ∀ x, x < s.n → a'.tmps[x]? = some ((lk Ei x).getD (a.tmps.getD x undef)) := by
        intro x hx
        rw [ha']
        simp [hx]
      have hsz' : a'.tmps.size = s.n := by rw [ha']; simp
      have hdl' : a'.defers = s.dl := by rw [ha']; exact hdl
      have hsat : Sat s Ei M a' w := ⟨hw, hdl', hsz', fun x u hx => by rw [ht' x (hlt_of x u hx), hx]; rfl⟩
      have hsame : ∀ x ∈ o.looksAt l.toArray, a.tmps[x]? = a'.tmps[x]? := by
        intro x hx
        rcases Nat.lt_or_ge x s.n with hxn | hxn
        · rw [ht' x hxn]
          cases hl : lk Ei x with
          | none =>
            rw [Array.getD_eq_getD_getElem?, Array.getElem?_eq_getElem (by omega)]; rfl
          | some u =>
            rw [hEi] at hl
            rcases lk_tEnv htl hl with ⟨j, p, h1, hpx, h3⟩ | ⟨h1, h2⟩
            · rw [List.getElem?_take] at h1 h3
              split at h1
              · rename_i hji
                rw [if_pos hji] at h3
                obtain ⟨e, he, hen⟩ := hdst j p u h1 h3
                have hpx' : p.dst = some x := by rw [he] at hpx ⊢; simpa using hpx
                rcases q3 x hx j p h1 hpx' with ⟨ed, hed, hbd, rfl⟩ | h4 | ⟨h4, _⟩
                · have := hv ed.on p u h1 h3 (hdeps ed hed hbd)
                  rw [hpx] at this; exact this
                · omega
                · omega
              · cases h1
            · refine hb x u h2 (fun j p hj e => ?_)
              obtain ⟨u', hu'⟩ := hval j p hj
              obtain ⟨e', he', _⟩ := hdst j p u' hj hu'
              have hpx' : p.dst = some x := by rw [he'] at e ⊢; simpa using e
              rcases q3 x hx j p hj hpx' with ⟨ed, hed, hbd, rfl⟩ | h4 | ⟨h4, h5⟩
              · have hlt2 := q2 ed hed hbd
                exact absurd e (h1 ed.on p (by rw [List.getElem?_take, if_pos hlt2]; exact hj))
              · subst h4; exact hun_i
              · cases hlj : listed.getD j true with
                | false => rfl
                | true =>
                  exfalso
                  have := ancs_all (ops := l.toArray) (p := fun k => listed.getD k true = true) (fun k q hk hp y hy => hcl k q (by simpa using hk) hp y hy) l.length (edgesOf p) (fun y hy => hcl j p hj hlj y hy) i h5
                  rw [this] at hun_i; cases hun_i
        · rw [Array.getElem?_eq_none (by omega), Array.getElem?_eq_none (by omega)]
      refine wpOp_like (s := s) (M := M) (v := v) (by simpa using ho) q1 hd (by rw [hsz']; exact hdn) hdl' hsame (hL a' w hsat) (fun w' hw' => ?_)
      refine ih _ _ _ (by simpa using hsz) (by have := un_set hlt hsz hun_i; omega) hw' hdl (by simpa [Act.put] using hts) (fun x u hx hn => ?_) (fun j p u hj hu hlj => ?_) (fun j p hj hlj e he => ?_)
      · have hne : o.dst.getD 0 ≠ x := fun e => by
          have h4 := hn i o ho e
          rw [Array.getD_eq_getD_getElem?, Array.getElem?_setIfInBounds_self_of_lt (by omega)] at h4
          cases h4
        rw [hd] at hne
        simp only [Act.put]
        rw [Array.getElem?_setIfInBounds_ne (by simpa using hne)]
        refine hb x u hx (fun j p hj e => ?_)
        have h4 := hn j p hj e
        by_cases hji : j = i
        · rw [hji]; exact hun_i
        · rw [Array.getD_eq_getD_getElem?, Array.getElem?_setIfInBounds_ne (fun e => hji e.symm)] at h4
          rw [Array.getD_eq_getD_getElem?]; exact h4
      · simp only [Act.put]
        by_cases hji : j = i
        · subst hji
          rw [ho] at hj; cases hj
          rw [hvi] at hu; cases hu
          rw [hd]
          simp only [Option.getD_some]
          rw [Array.getElem?_setIfInBounds_self_of_lt (by rw [hts]; exact hdn)]
        · have hne := hdif i j o p ho hj hji
          rw [hd] at hne
          rw [Array.getElem?_setIfInBounds_ne (fun e => hne (by simpa using e.symm))]
          refine hv j p u hj hu ?_
          rw [Array.getD_eq_getD_getElem?, Array.getElem?_setIfInBounds_ne (fun e => hji e.symm)] at hlj
          rw [Array.getD_eq_getD_getElem?]; exact hlj
      · have hmono : ∀ k, listed.getD k true = true → (listed.setIfInBounds i true).getD k true = true := fun k hk => by
          by_cases hki : k = i
          · subst hki; rw [Array.getD_eq_getD_getElem?, Array.getElem?_setIfInBounds_self_of_lt (by omega)]; rfl
          · rw [Array.getD_eq_getD_getElem?, Array.getElem?_setIfInBounds_ne (fun e => hki e.symm), ← Array.getD_eq_getD_getElem?]; exact hk
        by_cases hji : j = i
        · subst hji
          rw [ho] at hj; cases hj
          unfold edgesOf at he
          obtain ⟨e', he', rfl⟩ := List.mem_map.1 he
          obtain ⟨h5, h6⟩ := List.mem_filter.1 he'
          exact hmono _ (hdeps e' (Array.mem_toList_iff.1 h5) h6)
        · rw [Array.getD_eq_getD_getElem?, Array.getElem?_setIfInBounds_ne (fun e => hji e.symm), ← Array.getD_eq_getD_getElem?] at hlj
          exact hmono _ (hcl j p hj hlj e he)
  intro a w hs
  refine main l.length _ a w (by simp) (by unfold un; exact Nat.le_trans (List.length_filter_le _ _) (by simp)) hs.at_ hs.defers hs.size (fun x v hx _ => hs.env x v hx) (fun j o v hj hv hl => ?_) (fun j o hj hl => ?_)
  · have hlt : j < l.length := (List.getElem?_eq_some_iff.1 hj).1
    simp [hlt] at hl
  · have hlt : j < l.length := (List.getElem?_eq_some_iff.1 hj).1
    simp [hlt] at hl
/-- A drawn region that turns nothing of one's own, in the text's order; a slot that is known ahead may be turned, behind those who read it. -/
theorem C.quietA {id : Nat} {l : List Oper} (hm : P.follows .mixedOrders = true := by kernel_rfl) (hq : qOkA l.toArray = true := by decide +kernel) (h : QL P l.toArray Q l s E M) : C P (.region id l.toArray true) Q s E M := by
  intro a w hs
  have hE : ∀ i v, lk E i = some v → i < s.n := fun i v h => by rw [← hs.size]; exact (Array.getElem?_eq_some_iff.1 (hs.env i v h)).1
  exact C.draw hm (QL.anyA hq hE h) a w hs
end
end Go.Proofs.YtokcamgipnaoeaaGreatDoor.SL
namespace Go.Proofs.YtokcamgipnaoeaaGreatDoor.SL
open Go Go.RowKit
def osSet : OS → Nat → Value → OS
  | none, _, _ => none
  | some (b, l, cap), k, v => some (b, l.set k v, cap)
theorem osV_set (m : Nat) (y : OS) (k : Nat) (v : Value) : osV m (osSet y k v) = osV m y := by rcases y with _ | ⟨b, l, cap⟩ <;> rfl
theorem osG.set {n m k : Nat} {cs : List Value} {y : OS} {v : Value} (h : osG n m cs y) : osG n m (cs.set k v) (osSet y k v) := by
  rcases y with _ | ⟨b, l, cap⟩
  · obtain ⟨rfl, rfl⟩ := h; exact ⟨rfl, by simp⟩
  · obtain ⟨h1, h2, h3, h4⟩ := h
    exact ⟨by simpa using h1, h2, h3, by rw [List.take_set, h4]⟩
def osSetL : OS → Nat → List Value → OS
  | none, _, _ => none
  | some (b, l, cap), k, vs => some (b, setL l k vs, cap)
theorem osV_setL (m : Nat) (y : OS) (k : Nat) (vs : List Value) : osV m (osSetL y k vs) = osV m y := by rcases y with _ | ⟨b, l, cap⟩ <;> rfl
theorem setL_take (p : Nat) : ∀ (vs : List Value) (l : List Value) (o : Nat), (setL l o vs).take p = setL (l.take p) o vs
  | [], _, _ => rfl
  | v :: vs, l, o => by
    show (setL (l.set o v) (o + 1) vs).take p = setL ((l.take p).set o v) (o + 1) vs
    rw [setL_take p vs, List.take_set]
theorem osG.setL {n m k : Nat} {cs : List Value} {y : OS} {vs : List Value} (h : osG n m cs y) (hne : m ≠ 0) : osG n m (SL.setL cs k vs) (osSetL y k vs) := by
  rcases y with _ | ⟨b, l, cap⟩
  · exact absurd h.1 hne
  · obtain ⟨h1, h2, h3, h4⟩ := h
    exact ⟨by rw [setL_length]; exact h1, h2, h3, by rw [setL_take, h4]⟩
section
variable {P : Program} {ops : Array Oper} {Q : Exit → Act → World → Prop} {s : St} {E : Env} {M M0 : Hp} {rest : List Oper} {acc : List Pl} {d t : Nat} {pos : String} {af : Array Edge}
/-- The cells of an own slice, in the world; its block is among those known. -/
theorem osG.rdm {n m T : Nat} {cs : List Value} {y : OS} {w0 w : World} {A : List Nat} (h : osG n m cs y) (hw : At w0 A M w) (hsub : ∀ x ∈ osC T y [], x ∈ M) : Rd w [] (osV m y) m cs := by
  rcases y with _ | ⟨b, l, cap⟩
  · obtain ⟨rfl, rfl⟩ := h; exact Rd.nil
  · obtain ⟨h1, h2, h3, h4⟩ := h
    exact Rd.own (hw.holds (b, ob l T) (hsub _ List.mem_cons_self)) (by simp) h2 _ h4
theorem osG.rdk {n m T : Nat} {cs : List Value} {y : OS} {w0 w : World} {A A' : List Nat} (h : osG n m cs y) (hw : At w0 A M w) (hsub : ∀ x ∈ osC T y [], x ∈ M) (hA : ∀ x ∈ osC T y [], x.1 ∉ A') : Rd w A' (osV m y) m cs := by
  rcases y with _ | ⟨b, l, cap⟩
  · obtain ⟨rfl, rfl⟩ := h; exact Rd.nil
  · obtain ⟨h1, h2, h3, h4⟩ := h
    exact Rd.own (hw.holds (b, ob l T) (hsub _ List.mem_cons_self)) (hA _ List.mem_cons_self) h2 _ h4
/-- Rows that are put together in another order. -/
theorem perm_by {α : Type} (f : Nat → List α) (p q : List Nat) {X Y : List α} (hx : X = p.flatMap f) (hy : Y = q.flatMap f) (h : p.Perm q := by decide) : X.Perm Y := by
  rw [hx, hy]; exact h.flatMap_right f
/-- A cell of an own slice is turned. -/
theorem L.setU (L1 : Hp) {x z : Operand} {T e n m i j b o : Nat} {cs : List Value} {y : OS} {L2 : Hp} {u v : Value} [hz : Siz P T 1] (hG : osG n m cs y) (hM : M = L1 ++ osC e y L2) (hu : osV m y = u) (hi : i < m) (hj : j < n)
    (hx : ev E x = some (.pointer (some ⟨b, o, none⟩)) := by exact rfl) (hy : ev E z = some v := by exact rfl) (hb : b = sB u := by exact rfl) (ho : o = sO u + i * n + j := by exact rfl)
    (hc : v.cells = [v].toArray := by exact rfl) (h1 : oneB v = true := by exact rfl)
    (c : osG n m (cs.set (i * n + j) v) (osSet y (i * n + j) v) → osV m (osSet y (i * n + j) v) = u → L P ops Q rest s E (L1 ++ osC e (osSet y (i * n + j) v) L2)) : L P ops Q (⟨none, .store T x z, t, pos, af, none⟩ :: rest) s E M := by
  have c' := c hG.set (by rw [osV_set]; exact hu)
  clear c
  subst hu
  rcases y with _ | ⟨b', l, cap⟩
  · obtain ⟨rfl, _⟩ := hG; omega
  · obtain ⟨g1, g2, g3, g4⟩ := hG
    simp only [osV, sB, sO] at hb ho
    subst hb
    have hlt : i * n + j < l.length := by
      have := Nat.mul_le_mul_right n (show i + 1 ≤ m by omega)
      have h2 := Nat.mul_le_mul_right n g2
      rw [Nat.add_mul] at this; omega
    refine L.storeK (T' := e) L1.length (k := i * n + j) hlt (by omega) (hx := hx) (hy := hy) (hi := ?_) (hc := hc) (h1 := h1) (M' := L1 ++ osC e (osSet (some (b, l, cap)) (i * n + j) v) L2) (hM := ?_) c'
    · rw [hM]; exact hat_app L1 _ L2
    · rw [hM]; exact hset_app L1 b _ _ L2
/-- An element of an own slice is turned, whole. -/
theorem L.setUA (L1 : Hp) {x z : Operand} {T e n m i b o : Nat} {cs vs : List Value} {y : OS} {L2 : Hp} {u : Value} [hz : Siz P T n] (hG : osG n m cs y) (hM : M = L1 ++ osC e y L2) (hu : osV m y = u) (hi : i < m) (hlen : vs.length = n) (ho1 : vs.all oneB = true)
    (hx : ev E x = some (.pointer (some ⟨b, o, none⟩)) := by exact rfl) (hy : ev E z = some (.agg vs.toArray) := by exact rfl) (hb : b = sB u := by exact rfl) (ho : o = sO u + i * n := by exact rfl)
    (c : osG n m (setL cs (i * n) vs) (osSetL y (i * n) vs) → osV m (osSetL y (i * n) vs) = u → L P ops Q rest s E (L1 ++ osC e (osSetL y (i * n) vs) L2)) : L P ops Q (⟨none, .store T x z, t, pos, af, none⟩ :: rest) s E M := by
  have c' := c (hG.setL (by omega)) (by rw [osV_setL]; exact hu)
  clear c
  subst hu
  rcases y with _ | ⟨b', l, cap⟩
  · obtain ⟨rfl, _⟩ := hG; omega
  · obtain ⟨g1, g2, g3, g4⟩ := hG
    simp only [osV, sB, sO] at hb ho
    subst hb
    have hlt : i * n + n ≤ l.length := by
      have := Nat.mul_le_mul_right n (show i + 1 ≤ m by omega)
      have h2 := Nat.mul_le_mul_right n g2
      rw [Nat.add_mul] at this; omega
    have ho' : o = i * n := by omega
    subst ho'
    refine L.storeV (T' := e) L1.length (vs := vs) (l' := setL l (i * n) vs) (hx := hx) (hy := hy) (hi := ?_) (hc := rfl) (hlen := hlen) (ho := ho1) (hb := Nat.ble_eq_true_of_le hlt) (hl := rfl) (M' := L1 ++ osC e (osSetL (some (b, l, cap)) (i * n) vs) L2) (hM := ?_) c'
    · rw [hM]; exact hat_app L1 _ L2
    · rw [hM]; exact hset_app L1 b _ _ L2
theorem QP.fin3 (tks : List (Option (List Nat))) (j1 j2 j3 : Nat) {m1 m2 m3 : Mk} (ht : acc.reverse.map Pl.tk = tks := by exact rfl) (nds : List (List Nat)) (hnd : acc.reverse.map Pl.nd = nds := by exact rfl) (hok : okP ops tks nds = true := by decide +kernel) (hno : NdOk acc.reverse acc.reverse := by repeat (first | exact trivial | refine ⟨rfl, ?_⟩)) (hf : finals tks = [j1, j2, j3] := by decide +kernel) (hnc : ncE ops tks E = true := by kernel_rfl)
    (hM : M.Perm (acc.reverse.flatMap Pl.ini ++ M0)) (hj1 : acc.reverse[j1]? = some (.make m1) := by exact rfl) (hj2 : acc.reverse[j2]? = some (.make m2) := by exact rfl) (hj3 : acc.reverse[j3]? = some (.make m3) := by exact rfl)
    (k : ∀ F1 B1 F2 B2 F3 B3, m1.R F1 B1 → m2.R F2 B2 → m3.R F3 B3 → D Q .normal s (F1 ++ (F2 ++ (F3 ++ E))) (B1 ++ (B2 ++ (B3 ++ M0)))) : QP P ops Q M0 s M [] acc E :=
  ⟨tks, nds, E, ht, hnd, hno, hok, hM, fun x v hx => ⟨hx, ncE_ok hnc hx⟩, fun xs hx => by
    rw [hf] at hx
    match xs, hx with
    | [(F1, B1), (F2, B2), (F3, B3)], ⟨⟨m, h1, h2⟩, ⟨m', h3, h4⟩, ⟨m'', h5, h6⟩, _⟩ =>
      rw [hj1] at h1; cases h1
      rw [hj2] at h3; cases h3
      rw [hj3] at h5; cases h5
      have e1 : hps [(F1, B1), (F2, B2), (F3, B3)] ++ M0 = B1 ++ (B2 ++ (B3 ++ M0)) := by simp [hps]
      have e2 : envs [(F1, B1), (F2, B2), (F3, B3)] ++ E = F1 ++ (F2 ++ (F3 ++ E)) := by simp [envs]
      rw [e1, e2]
      exact k F1 B1 F2 B2 F3 B3 h2 h4 h6⟩
end
end Go.Proofs.YtokcamgipnaoeaaGreatDoor.SL
namespace Go
section
variable {F : Fence} {n : Nat} {P : Program} {Q : Exit → Act → World → Prop} {a : Act} {w : World} {b : Frame} {k : List Item} {cs : List Frame}
theorem stepR_scope {c : Code} : step P (lone (b.atR a (.code (.scope c) :: k)) cs w) = .next (lone (b.atR a (.code c :: .inScope c :: k)) cs w) :=
  step_lone_go (by simp [stepG, stepG.exec, Frame.atR])
theorem stepR_inScope {c : Code} : step P (lone (b.atR a (.inScope c :: k)) cs w) = .next (lone (b.atR a k) cs w) :=
  step_lone_go (by simp [stepG, stepG.exec, Frame.atR])
theorem wpIn_scope_jumps {c rest : Code} (l : Nat) (J : Act → World → Prop) (μ : Act → World → Nat) (hf : findLabel c l = some rest)
    (first : c.wpIn F n P (Exit.jump l J Q) a w)
    (pass : ∀ a w, J a w → rest.wpIn F n P (Exit.jump l (fun a' w' => J a' w' ∧ μ a' w' < μ a w) Q) a w) : (Code.scope c).wpIn F n P Q a w := by
  intro b k cs hro hb hr
  have hg : gotoIn l (.inScope c :: k) = some (.code rest :: .inScope c :: k) := by simp [gotoIn, hf]
  have key : ∀ j a w, μ a w = j → J a w → ∃ e a' w', Q e a' w' ∧ ArrivesIn (Machine.fenced P F) P (lone (b.atR a (.code rest :: .inScope c :: k)) cs w) b k cs e a' w' := by
    intro j
    induction j using Nat.strongRecOn with
    | _ j ih =>
      intro a w hn hJ
      obtain ⟨e, a₁, w₁, hq, harr⟩ := pass a w hJ b (.inScope c :: k) cs hro hb hr
      cases e with
      | normal => exact ⟨.normal, a₁, w₁, hq, StepsIn.trans harr (.one (fenced_calm hb hr rfl) stepR_inScope)⟩
      | exit id => exact ⟨.exit id, a₁, w₁, hq, fun k' hk => harr.1 k' (by simp [exitTo, hk]), fun hr' hk => harr.2 hr' (by simp [exitTo, hk])⟩
      | goto l' =>
        obtain ⟨rfl, hJ', hlt⟩ := hq
        obtain ⟨e₂, a₂, w₂, hq₂, harr₂⟩ := ih _ (by omega) a₁ w₁ rfl hJ'
        exact ⟨e₂, a₂, w₂, hq₂, .of_steps (harr.1 _ hg) harr₂⟩
      | ret => exact ⟨_, a₁, w₁, hq, harr⟩
      | panic ch => exact ⟨_, a₁, w₁, hq, harr⟩
      | outgrown => exact ⟨_, a₁, w₁, hq, harr⟩
  have h0 : (lone (b.atR a (.code (.scope c) :: k)) cs w).fenced P F := fenced_calm hb hr rfl
  obtain ⟨e, a₁, w₁, hq, harr⟩ := first b (.inScope c :: k) cs hro hb hr
  cases e with
  | normal => exact ⟨.normal, a₁, w₁, hq, .head h0 stepR_scope (StepsIn.trans harr (.one (fenced_calm hb hr rfl) stepR_inScope))⟩
  | exit id => exact ⟨.exit id, a₁, w₁, hq, fun k' hk => .head h0 stepR_scope (harr.1 k' (by simp [exitTo, hk])), fun hr' hk => let ⟨k₁, h1, h2⟩ := harr.2 hr' (by simp [exitTo, hk]); ⟨k₁, h1, .head h0 stepR_scope h2⟩⟩
  | goto l' =>
    obtain ⟨rfl, hJ'⟩ := hq
    obtain ⟨e₂, a₂, w₂, hq₂, harr₂⟩ := key _ a₁ w₁ rfl hJ'
    exact ⟨e₂, a₂, w₂, hq₂, .of_steps (.head h0 stepR_scope (harr.1 _ hg)) harr₂⟩
  | ret => exact ⟨_, a₁, w₁, hq, .of_steps (.one h0 stepR_scope) harr⟩
  | panic ch => exact ⟨_, a₁, w₁, hq, .of_steps (.one h0 stepR_scope) harr⟩
  | outgrown => exact ⟨_, a₁, w₁, hq, .of_steps (.one h0 stepR_scope) harr⟩
end
end Go
namespace Go.Proofs.YtokcamgipnaoeaaGreatDoor.SL
open Go Go.RowKit
section
variable {P : Program} {Q : Exit → Act → World → Prop} {s : St} {E : Env} {M : Hp} {x y c : Code}
/-- A scope: what holds at each jump back, told of ghosts; each pass lowers the measure. -/
theorem C.scope {α : Type} {rest : Code} (l : Nat) (G : α → Prop) (EI : α → Env) (MI : α → Hp) (μ : α → Nat) (hf : findLabel c l = some rest := by exact rfl)
    (first : C P c (Exit.jump l (fun a w => ∃ y, G y ∧ Sat s (EI y) (MI y) a w) Q) s E M)
    (pass : ∀ x, G x → C P rest (Exit.jump l (fun a w => ∃ y, G y ∧ μ y < μ x ∧ Sat s (EI y) (MI y) a w) Q) s (EI x) (MI x)) : C P (.scope c) Q s E M := by
  intro a w hs
  have hl : ∀ a w, (∃ x, G x ∧ Sat s (EI x) (MI x) a w) → ∃ n, (∃ x, G x ∧ Sat s (EI x) (MI x) a w ∧ μ x = n) ∧ ∀ m, (∃ x, G x ∧ Sat s (EI x) (MI x) a w ∧ μ x = m) → n ≤ m :=
    fun a w ⟨x, h1, h2⟩ => least ⟨μ x, x, h1, h2, rfl⟩
  open Classical in
  refine wpIn_scope_jumps l (fun a w => ∃ x, G x ∧ Sat s (EI x) (MI x) a w) (fun a w => if h : ∃ x, G x ∧ Sat s (EI x) (MI x) a w then Classical.choose (hl a w h) else 0) hf (first a w hs) ?_
  intro a w hI
  obtain ⟨⟨x, h1, h2, h3⟩, _⟩ := Classical.choose_spec (hl a w hI)
  refine wpIn_mono (pass x h1 a w h2) ?_
  intro e a' w' hq
  cases e with
  | goto l' =>
    obtain ⟨rfl, y, hy, hlt, hsy⟩ := hq
    refine ⟨rfl, ⟨y, hy, hsy⟩, ?_⟩
    rw [dif_pos (⟨y, hy, hsy⟩ : ∃ x, G x ∧ Sat s (EI x) (MI x) a' w'), dif_pos hI]
    have := (Classical.choose_spec (hl a' w' ⟨y, hy, hsy⟩)).2 (μ y) ⟨y, hy, hsy, rfl⟩
    omega
  | exit id => exact hq
  | normal => exact hq
  | ret => exact hq
  | panic ch => exact hq
  | outgrown => exact hq
theorem C.label {l : Nat} (h : D Q .normal s E M) : C P (.label l) Q s E M := fun a w hs => wpIn_label (h a w hs)
theorem C.goto {l : Nat} (h : D Q (.goto l) s E M) : C P (.goto l) Q s E M := fun a w hs => wpIn_goto (h a w hs)
theorem D.thenGoto {K : Act → World → Prop} {l : Nat} (h : D Q (.goto l) s E M) : D (Exit.then K Q) (.goto l) s E M := fun a w hs => h a w hs
theorem D.blkGoto {i l : Nat} (h : D Q (.goto l) s E M) : D (Exit.inBlock i Q) (.goto l) s E M := fun a w hs => h a w hs
theorem D.jumpRet {l : Nat} {J : Act → World → Prop} (h : D Q .ret s E M) : D (Exit.jump l J Q) .ret s E M := fun a w hs => h a w hs
theorem D.jumpNormal {l : Nat} {J : Act → World → Prop} (h : D Q .normal s E M) : D (Exit.jump l J Q) .normal s E M := fun a w hs => h a w hs
theorem D.jump {l : Nat} {J : Act → World → Prop} (h : ∀ a w, Sat s E M a w → J a w) : D (Exit.jump l J Q) (.goto l) s E M := fun a w hs => ⟨rfl, h a w hs⟩
end
section
variable {P : Program} {ops : Array Oper} {Q : Exit → Act → World → Prop} {s : St} {E : Env} {M : Hp} {rest : List Oper} {d t : Nat} {pos : String} {af : Array Edge}
/-- An element of an own slice is read; the slice's value is told by a name. -/
theorem L.loadW (L1 : Hp) {x : Operand} {T e n m i j b o : Nat} {cs : List Value} {y : OS} {L2 : Hp} {u v : Value} [hT : Sgl P T] (hG : osG n m cs y) (hM : M = L1 ++ osC e y L2) (hu : osV m y = u) (hi : i < m) (hj : j < n) (hv : cs[i * n + j]? = some v)
    (hd : Nat.blt d s.n = true := by exact rfl) (hx : ev E x = some (.pointer (some ⟨b, o, none⟩)) := by exact rfl) (hb : b = sB u := by exact rfl) (ho : o = sO u + i * n + j := by exact rfl)
    (c : L P ops Q rest s ((d, v) :: E) M) : L P ops Q (⟨some d, .load T x, t, pos, af, none⟩ :: rest) s E M := by
  subst hu
  exact L.loadU L1 hG hM hi hj hv hd hx hb ho c
theorem copy_exec {T dd : Nat} {x y : Operand} {a : Act} {w w' : World} {v u r : Value} (hs : Sat s E M a w) (hx : ev E x = some v) (hy : ev E y = some u) (h : (Builtin.copy_ #[T, T] t #[v, u]).run P w = .ok r w') :
    (execOp a.eval ⟨some dd, .call { callee := .builtin .copy, args := #[x, y], argTypes := #[T, T] }, t, pos, af, none⟩).run P w = .ok (.value r) w' := by
  show Sem.run P (do let d ← resolve a.eval { callee := .builtin .copy, args := #[x, y], argTypes := #[T, T] } t; invoke d.target d.args) w = _
  unfold resolve
  simp only [List.map_toArray, List.map_cons, List.map_nil, hs.ev hx, hs.ev hy]
  exact run_value (s := Builtin.copy_ #[T, T] t #[v, u]) h
/-- copy onto a block of one's own; its elements are of one cell; the source is no longer than it. -/
theorem L.copyK (i : Nat) {T T' e b len cap k : Nat} {l news : List Value} {u : Value} {x z : Operand} [hT : Und P T (.slice e)] [hS : Siz P e 1] (hi : hat M i = some (b, ob l T'))
    (hu : ∀ w, At s.w0 s.A M w → Rd w [] u k news) (hnl : news.length = k) (h1 : news.all oneB = true) (hk : k ≤ len) (hlen : len ≤ l.length)
    (hd : Nat.blt d s.n = true := by exact rfl) (hx : ev E x = some (.slice (some ⟨b, 0, none⟩) len cap) := by exact rfl) (hz : ev E z = some u := by exact rfl) {M' : Hp} (hM : hset M i (ob (setL l 0 news) T') = M')
    (c : L P ops Q rest s ((d, .int .i64 k) :: E) M') : L P ops Q (⟨some d, .call { callee := .builtin .copy, args := #[x, z], argTypes := #[T, T] }, t, pos, af, none⟩ :: rest) s E M := by
  refine L.val hd (fun a w hs => ?_) c
  obtain ⟨⟨p, cp, rfl, hkc, hp⟩, hold⟩ := hu w hs.at_
  obtain ⟨w', hr, hw⟩ := storeCells_ob (P := P) (o := 0) news 0 hs.at_ hi (by omega) h1
  have hmin : Nat.min k len = k := Nat.min_eq_left hk
  rcases p with _ | ad
  · have hk0 : k = 0 := by
      rcases Nat.eq_zero_or_pos k with h | h
      · exact h
      · exact absurd (hp h) (by simp)
    subst hk0
    obtain rfl : news = [] := List.eq_nil_of_length_eq_zero hnl
    refine ⟨w, copy_exec hs hx hz ?_, ?_⟩
    · unfold Builtin.copy_
      rw [show (#[T, T] : Array Nat)[0]? = some T from rfl]
      simp only [List.getElem?_toArray, List.getElem?_cons_zero, List.getElem?_cons_succ]
      show Sem.run P (underlying T >>= _) w = _
      rw [run_bind_ok und_run]
      show Sem.run P (do let n := Nat.min (← Builtin.lenOf (.slice none 0 cp)) len; let cells ← Builtin.firstCells (← sizeOf e) n (.slice none 0 cp); storeCells ⟨b, 0, none⟩ cells.toList; pure (goInt n)) w = _
      simp only [Builtin.lenOf, Builtin.firstCells, pure_bind]
      rw [run_bind_ok (siz_run hS.out)]
      simp only [pure_bind, storeCells]
      simp [Nat.min, goInt]
    · rw [← hM]
      rw [show setL l 0 ([] : List Value) = l from rfl, hset_same hi]
      exact hs.at_
  · have hsrc : ∀ j v, news[j]? = some v → w.cell? (ad.add j) = some v := by
      intro j v hj
      rcases Nat.eq_zero_or_pos k with h | h
      · subst h
        have hn0 : news = [] := List.eq_nil_of_length_eq_zero hnl
        subst hn0; simp at hj
      · have h2 := hold h
        have h3 := hp h
        simp only [Option.some.injEq] at h3
        rw [h3, add_at]
        exact h2.2.2 j v hj
    have hload := run_loadCells_list (P := P) w ad news hsrc
    refine ⟨w', copy_exec hs hx hz ?_, by rw [← hM]; exact hw⟩
    unfold Builtin.copy_
    rw [show (#[T, T] : Array Nat)[0]? = some T from rfl]
    simp only [List.getElem?_toArray, List.getElem?_cons_zero, List.getElem?_cons_succ]
    show Sem.run P (underlying T >>= _) w = _
    rw [run_bind_ok und_run]
    show Sem.run P (do let n := Nat.min (← Builtin.lenOf (.slice (some ad) k cp)) len; let cells ← Builtin.firstCells (← sizeOf e) n (.slice (some ad) k cp); storeCells ⟨b, 0, none⟩ cells.toList; pure (goInt n)) w = _
    simp only [Builtin.lenOf, Builtin.firstCells, pure_bind]
    rw [run_bind_ok (siz_run hS.out)]
    rw [hmin, Nat.mul_one, ← hnl]
    rw [run_bind_ok hload]
    simp only [List.toList_toArray]
    rw [run_bind_ok hr]
    rfl
end
end Go.Proofs.YtokcamgipnaoeaaGreatDoor.SL
namespace Go.Proofs.YtokcamgipnaoeaaGreatDoor.SL
open Go Go.RowKit
section
variable {P : Program} {ops : Array Oper} {Q : Exit → Act → World → Prop} {s : St} {E : Env} {M : Hp} {rest : List Oper} {d t : Nat} {pos : String} {af : Array Edge}
/-- copy onto a part of a block of one's own; as many as there are, or as there is room for. -/
theorem L.copyV (i : Nat) {T T' e b o len k c : Nat} {l cs : List Value} {dv u : Value} {x z : Operand} [hT : Und P T (.slice e)] [hS : Siz P e 1] (hi : hat M i = some (b, ob l T')) (hdv : SlV dv len) (hb : 0 < len → sB dv = b ∧ sO dv = o)
    (hu : ∀ w, At s.w0 s.A M w → Rd w [] u k cs) (hnl : cs.length = k) (h1 : cs.all oneB = true) (hc : Nat.min k len = c) (hlen : o + len ≤ l.length)
    (hd : Nat.blt d s.n = true := by exact rfl) (hx : ev E x = some dv := by exact rfl) (hz : ev E z = some u := by exact rfl) {M' : Hp} (hM : hset M i (ob (setL l o (cs.take c)) T') = M')
    (k' : L P ops Q rest s ((d, .int .i64 c) :: E) M') : L P ops Q (⟨some d, .call { callee := .builtin .copy, args := #[x, z], argTypes := #[T, T] }, t, pos, af, none⟩ :: rest) s E M := by
  refine L.val hd (fun a w hs => ?_) k'
  obtain ⟨⟨p, cp, rfl, hkc, hp⟩, hold⟩ := hu w hs.at_
  obtain ⟨p2, cp2, rfl, hkc2, hp2⟩ := hdv
  have hck : c ≤ k := by rw [← hc]; exact Nat.min_le_left _ _
  have hcl : c ≤ len := by rw [← hc]; exact Nat.min_le_right _ _
  have hl : (cs.take c).length = c := by rw [List.length_take]; omega
  have h1' : (cs.take c).all oneB = true := List.all_eq_true.2 fun v hv => List.all_eq_true.1 h1 v (List.mem_of_mem_take hv)
  have first : (Builtin.firstCells 1 c (.slice p k cp)).run P w = .ok (cs.take c).toArray w := by
    rcases p with _ | ad
    · have hk0 : k = 0 := by
        rcases Nat.eq_zero_or_pos k with h | h
        · exact h
        · exact absurd (hp h) (by simp)
      have hc0 : c = 0 := by omega
      subst hc0
      rfl
    · have hsrc : ∀ j v, (cs.take c)[j]? = some v → w.cell? (ad.add j) = some v := by
        intro j v hj
        have hjc : j < c := by have := (List.getElem?_eq_some_iff.1 hj).1; omega
        rw [List.getElem?_take, if_pos hjc] at hj
        have h2 := hold (by omega)
        have h3 := hp (by omega)
        simp only [Option.some.injEq] at h3
        rw [h3, add_at]
        exact h2.2.2 j v hj
      have := run_loadCells_list (P := P) w ad (cs.take c) hsrc
      rw [hl] at this
      show (loadCells ad (c * 1)).run P w = _
      rw [Nat.mul_one]; exact this
  have pre : ∀ w', (match p2 with | some a => storeCells a (cs.take c) | none => pure ()).run P w = .ok () w' → (Builtin.copy_ #[T, T] t #[.slice p2 len cp2, .slice p k cp]).run P w = .ok (.int .i64 c) w' := by
    intro w' hw'
    unfold Builtin.copy_
    rw [show (#[T, T] : Array Nat)[0]? = some T from rfl]
    simp only [List.getElem?_toArray, List.getElem?_cons_zero, List.getElem?_cons_succ]
    show Sem.run P (underlying T >>= _) w = _
    rw [run_bind_ok und_run]
    rcases p2 with _ | ad
    · show Sem.run P (do let q ← Builtin.lenOf (.slice p k cp); let z ← sizeOf e; let cells ← Builtin.firstCells z (Nat.min q len) (.slice p k cp); pure (goInt (Nat.min q len))) w = _
      simp only [Builtin.lenOf, pure_bind]
      rw [run_bind_ok (siz_run hS.out)]
      rw [hc, run_bind_ok first]
      have : w' = w := by have := hw'; simp only [Sem.run_pure] at this; cases this; rfl
      subst this
      rfl
    · show Sem.run P (do let q ← Builtin.lenOf (.slice p k cp); let z ← sizeOf e; let cells ← Builtin.firstCells z (Nat.min q len) (.slice p k cp); storeCells ad cells.toList; pure (goInt (Nat.min q len))) w = _
      simp only [Builtin.lenOf, pure_bind]
      rw [run_bind_ok (siz_run hS.out)]
      rw [hc, run_bind_ok first]
      simp only [List.toList_toArray]
      rw [run_bind_ok hw']
      rfl
  rcases Nat.eq_zero_or_pos len with h | h
  · have hc0 : c = 0 := by omega
    subst hc0
    refine ⟨w, copy_exec hs hx hz (pre w ?_), ?_⟩
    · rcases p2 with _ | ad
      · rfl
      · rfl
    · rw [← hM, List.take_zero, show setL l o ([] : List Value) = l from rfl, hset_same hi]
      exact hs.at_
  · have h3 := hp2 h
    obtain ⟨hb1, hb2⟩ := hb h
    have h4 : p2 = some ⟨b, o, none⟩ := h3.trans (by rw [hb1, hb2])
    clear h3 hb1 hb2 hb
    subst h4
    obtain ⟨w', hr, hw⟩ := storeCells_ob (P := P) (o := o) (cs.take c) 0 hs.at_ hi (by omega) h1'
    exact ⟨w', copy_exec hs hx hz (pre w' hr), by rw [← hM]; exact hw⟩
/-- A part of a slice whose block is known. -/
theorem L.sliceK {T e sz b o n cap lo hi : Nat} {x : Operand} {y z : Option Operand} [hT : Und P T (.slice e)] [hS : Siz P e sz] (hc : n ≤ cap) (h1 : lo ≤ hi) (h2 : hi ≤ n) (hlt : lo < cap)
    (hn : Nat.blt d s.n = true := by exact rfl) (hx : ev E x = some (.slice (some ⟨b, o, none⟩) n cap) := by exact rfl)
    (hy : (y = none ∧ lo = 0) ∨ ∃ o q, y = some o ∧ ev E o = some (.int q (lo : Int))) (hz : (z = none ∧ hi = n) ∨ ∃ o q, z = some o ∧ ev E o = some (.int q (hi : Int)))
    (c : L P ops Q rest s ((d, .slice (some ⟨b, o + lo * sz, none⟩) (hi - lo) (cap - lo)) :: E) M) : L P ops Q (⟨some d, .slice T x y z none, t, pos, af, none⟩ :: rest) s E M := by
  have hh := fun (a : Act) (w : World) (hs : Sat s E M a w) => bounds_run (P := P) (w := w) (sl := true) (n := n) (cap := cap) (opt_ev hs hy) (opt_ev hs hz) h1 (Nat.le_trans h2 hc)
  refine L.calm (S := fun ρ => Instr.sliceAt T (ρ x) (y.map ρ) (z.map ρ) none) (v := .slice (some ⟨b, o + lo * sz, none⟩) (hi - lo) (cap - lo)) hn (fun _ => rfl) (fun a w hs => ?_) c
  show (Instr.sliceAt T (a.eval x) (y.map a.eval) (z.map a.eval) none).run P w = _
  rw [hs.ev hx]
  unfold Instr.sliceAt
  rw [run_bind_ok und_run]
  simp only
  unfold Instr.slice
  rw [run_bind_ok und_run]
  simp only
  refine (run_bind_ok (hh a w hs)).trans ?_
  simp only
  rw [run_bind_ok (siz_run hS.out)]
  have e : (if cap = lo then (some ⟨b, o, none⟩ : Option Addr) else (some ⟨b, o, none⟩ : Option Addr).map (·.add (lo * sz))) = some ⟨b, o + lo * sz, none⟩ := by
    rw [if_neg (by omega)]; simp only [Option.map_some, add_at]
  rw [← e]
  rfl
end
end Go.Proofs.YtokcamgipnaoeaaGreatDoor.SL
