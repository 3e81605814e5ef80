/- The separation logic's rules for []byte(s), read from then on, and for a full slice s[i:j:j]. No program in sight. -/
import Derived.Test.YtpemoeincepilaaDoorSepGZ
import Derived.Test.YtpemoeincepilaaDoorSepX
import Derived.Laws.IdiomStrings
import Derived.Test.YtpemoeincepilaaDoorSepW
set_option linter.unusedVariables false
set_option linter.unusedSimpArgs false
namespace Go.Proofs.YtpemoeincepilaaDoor.SL
open Go Go.RowKit
section
variable {P : Program} {ops : Array Oper} {Q : Exit → Act → World → Prop} {s : St} {E : Env} {M : Hp} {rest : List Oper} {d t : Nat} {pos : String} {af : Array Edge}

/-- []byte(s): the bytes are read from then on. -/
theorem L.bytesR {T T' e : TypeId} [hT : Und P T .string] [hT' : Und P T' (.slice e)] [he : Und P e (.int .u8)] {x : Operand} {b : ByteArray} (hd : Nat.blt d s.n = true := by exact rfl) (hx : ev E x = some (.string b) := by exact rfl)
    (k : ∀ v w1, At s.w0 s.A M w1 → Rd w1 (keys M) v b.size (enc8 b.data.toList) → L P ops Q rest { s with w0 := w1, A := keys M } ((d, v) :: E) M) : L P ops Q (⟨some d, .convert T T' x, t, pos, af, none⟩ :: rest) s E M := by
  intro a w hs
  refine wpListIn_plain rfl fun K hK => ⟨fun _ _ => trivial, ?_⟩
  rw [Oper.semAt_eq _ _ _ (by intro c h; cases h)]
  have hr : (execOp a.eval ⟨some d, .convert T T' x, t, pos, af, none⟩).run P w = .ok (.value (.slice (some ⟨w.heap.size, 0, none⟩) b.size (grownCap w b.size 0 e)))
      (w.drew.alloc (.cells (bytesRow b (grownCap w b.size 0 e)) e ((bytesRow b (grownCap w b.size 0 e)).size, (bytesRow b (grownCap w b.size 0 e)).size + 1))) := by
    show Sem.run P (do pure (Next.value (← convert T T' (a.eval x)))) w = _
    rw [hs.ev hx]
    exact run_value (run_bytes_of_string w T T' e b hT.out hT'.out he.out)
  rw [hr]
  obtain ⟨w', hw'⟩ : ∃ w', w' = w.drew.alloc (.cells (bytesRow b (grownCap w b.size 0 e)) e ((bytesRow b (grownCap w b.size 0 e)).size, (bytesRow b (grownCap w b.size 0 e)).size + 1)) := ⟨_, rfl⟩
  have hnew : w'.heap[w.heap.size]? = some (.cells (bytesRow b (grownCap w b.size 0 e)) e ((bytesRow b (grownCap w b.size 0 e)).size, (bytesRow b (grownCap w b.size 0 e)).size + 1)) := by rw [hw']; exact heap_alloc_new w.drew _
  have hAt : At s.w0 s.A M w' := hs.at_.other (r := none) (by rw [hw']; exact ⟨rfl, rfl, rfl, by simp, fun k hk _ => Go.heap_alloc_old w.drew _ hk⟩) (fun k e => by cases e)
  have hRd : Rd w' (keys M) (.slice (some ⟨w.heap.size, 0, none⟩) b.size (grownCap w b.size 0 e)) b.size (enc8 b.data.toList) := by
    refine ⟨SlV.mk _ _ (grownCap_ge w b.size 0 e), fun _ => ⟨some_lt hnew, fun hm => ?_, fun i v hi => ?_⟩⟩
    · obtain ⟨y, hy, he⟩ := List.mem_map.1 hm
      have := some_lt (hs.at_.holds y hy)
      simp only [sB] at he
      omega
    · show w'.cell? ⟨w.heap.size, 0 + i, none⟩ = some v
      have h2 : (bytesRow b (grownCap w b.size 0 e))[i]? = some v := by
        unfold bytesRow
        unfold enc8 at hi
        rw [List.getElem?_map] at hi
        have hlt : i < b.data.size := by
          cases hj : b.data.toList[i]? with
          | none => rw [hj] at hi; cases hi
          | some u => simpa using (List.getElem?_eq_some_iff.1 hj).1
        rw [Array.getElem?_append_left (by simpa using hlt)]
        simpa using hi
      rw [Nat.zero_add]
      unfold World.cell?
      rw [hnew]
      simpa using h2
  rw [← hw']
  have hp := hs.put hd (.slice (some ⟨w.heap.size, 0, none⟩) b.size (grownCap w b.size 0 e)) hAt
  exact hK _ _ (k _ w' hAt hRd _ _ ⟨At.own hp.at_.nodup hp.at_.holds, hp.defers, hp.size, hp.env⟩)
/-- s[i:j:j]. -/
theorem L.slice3 {T e sz n lo hi : Nat} {x y z m : Operand} {v : Value} {q q' q2 : IntKind} {i j j2 : Int} (h : SlV v n) [hT : Und P T (.slice e)] [hS : Siz P e sz] (h1 : lo < hi) (h2 : hi ≤ n) (hi1 : i = (lo : Int)) (hj1 : j = (hi : Int)) (hj2 : j2 = (hi : Int)) (hn : Nat.blt d s.n = true := by exact rfl) (hx : ev E x = some v := by exact rfl)
    (hy : ev E y = some (.int q i) := by exact rfl) (hz : ev E z = some (.int q' j) := by exact rfl) (hm : ev E m = some (.int q2 j2) := by exact rfl)
    (c : L P ops Q rest s ((d, .slice (some ⟨sB v, sO v + lo * sz, none⟩) (hi - lo) (hi - lo)) :: E) M) : L P ops Q (⟨some d, .slice T x (some y) (some z) (some m), t, pos, af, none⟩ :: rest) s E M := by
  subst hi1; subst hj1; subst hj2
  obtain ⟨p, cap, hv, hc, hp⟩ := h
  refine L.calm (S := fun ρ => Instr.sliceAt T (ρ x) (some (ρ y)) (some (ρ z)) (some (ρ m))) (v := .slice (some ⟨sB v, sO v + lo * sz, none⟩) (hi - lo) (hi - lo)) hn (fun _ => rfl) (fun a w hs => ?_) c
  have hb : (Instr.sliceBounds true n cap (some (.int q (lo : Int))) (some (.int q' (hi : Int))) (some (.int q2 (hi : Int)))).run P w = .ok (lo, hi, hi) w := by
    have e1 : (0 : Int) ≤ hi ∧ (hi : Int) ≤ cap := by omega
    have e2 : (0 : Int) ≤ hi ∧ (hi : Int) ≤ hi := by omega
    have e3 : (0 : Int) ≤ lo ∧ (lo : Int) ≤ hi := by omega
    simp [Instr.sliceBounds, Instr.sliceBound, asIntOf, e1, e2, e3]
    omega
  show (Instr.sliceAt T (a.eval x) (some (a.eval y)) (some (a.eval z)) (some (a.eval m))).run P w = _
  rw [hs.ev hx, hs.ev hy, hs.ev hz, hs.ev hm, hv]
  unfold Instr.sliceAt
  rw [run_bind_ok und_run]
  simp only
  unfold Instr.slice
  rw [run_bind_ok und_run]
  simp only
  refine (run_bind_ok hb).trans ?_
  simp only
  rw [run_bind_ok (siz_run hS.out)]
  have h0 := hp (by omega)
  rw [if_neg (by omega), h0]
  simp only [Option.map_some, add_at, sB, sO]
  rfl
/-! Drawn regions that load and store cells whose places are numbers not known: what clashes is told by the block alone. -/
def Fp.kind : Fp → Nat
  | .no => 0
  | .rd k _ _ => 2 * k + 1
  | .wr k _ _ => 2 * k + 2
def kclash (a b : Nat) : Bool := !Nat.beq a 0 && !Nat.beq b 0 && Nat.beq ((a - 1) / 2) ((b - 1) / 2) && (Nat.beq (a % 2) 0 || Nat.beq (b % 2) 0)
theorem kc_rw {k : Nat} : kclash (2 * k + 1) (2 * k + 2) = true ∧ kclash (2 * k + 2) (2 * k + 1) = true ∧ kclash (2 * k + 2) (2 * k + 2) = true := by
  have e1 : (2 * k + 1 - 1) / 2 = k := by omega
  have e2 : (2 * k + 2 - 1) / 2 = k := by omega
  have e3 : (2 * k + 2) % 2 = 0 := by omega
  have e4 : Nat.beq (2 * k + 1) 0 = false := rfl
  have e5 : Nat.beq (2 * k + 2) 0 = false := rfl
  unfold kclash
  rw [e1, e2, e3, e4, e5]
  simp
theorem kclash_of {f g : Fp} (h : f.clash g = true) : kclash f.kind g.kind = true := by
  cases f <;> cases g <;> simp only [Fp.clash, Bool.and_eq_true, Nat.beq_eq, Bool.false_eq_true] at h
  · obtain ⟨rfl, _⟩ := h; exact kc_rw.1
  · obtain ⟨rfl, _⟩ := h; exact kc_rw.2.1
  · obtain ⟨rfl, _⟩ := h; exact kc_rw.2.2
/-- okW, told by kinds; x: pairs that are known not to clash. -/
def okK (x : List (Nat × Nat)) (ops : Array Oper) (fs : List Nat) : Bool := (List.range ops.size).all fun i => match ops[i]?, fs[i]? with
  | some o, some f => plainOp o.op && o.after.all (fun e => !Region.binds .any e || Nat.blt e.on i) &&
    (o.looksAt ops).all (fun x => (List.range ops.size).all fun j => match ops[j]? with
      | some p => p.dst != some x || (o.after.any fun e => Region.binds .any e && e.on == j)
      | none => true) &&
    (List.range ops.size).all (fun j => j == i || match ops[j]? with
      | some p => p.dst.isNone || p.dst != o.dst
      | none => true) &&
    (List.range i).all (fun j => match fs[j]? with
      | some g => !kclash g f || (ancs ops ops.size (edgesOf o)).contains j || x.contains (j, i)
      | none => true)
  | _, _ => false
theorem okW_of {x : List (Nat × Nat)} {ops : Array Oper} {fs : List Fp} (h : okK x ops (fs.map Fp.kind) = true) (hx : ∀ p ∈ x, ∀ f g, fs[p.1]? = some f → fs[p.2]? = some g → f.clash g = false) : okW ops fs = true := by
  unfold okK at h
  unfold okW
  refine List.all_eq_true.2 fun i hi => ?_
  have h1 := List.all_eq_true.1 h i hi
  cases ho : ops[i]? with
  | none => rw [ho] at h1; simp at h1
  | some o =>
  rw [ho] at h1
  rw [List.getElem?_map] at h1
  cases hf : fs[i]? with
  | none => rw [hf] at h1; simp at h1
  | some f =>
  rw [hf] at h1
  simp only [Option.map_some, Bool.and_eq_true] at h1 ⊢
  obtain ⟨⟨⟨⟨a1, a2⟩, a3⟩, a4⟩, a5⟩ := h1
  refine ⟨⟨⟨⟨a1, a2⟩, a3⟩, a4⟩, List.all_eq_true.2 fun j hj => ?_⟩
  have h2 := List.all_eq_true.1 a5 j hj
  rw [List.getElem?_map] at h2
  cases hg : fs[j]? with
  | none => rfl
  | some g =>
  rw [hg] at h2
  simp only [Option.map_some, Bool.or_eq_true, Bool.not_eq_true'] at h2 ⊢
  rcases h2 with (h2 | h2) | h2
  · left
    cases hc : g.clash f with
    | false => rfl
    | true => rw [kclash_of hc] at h2; cases h2
  · right; exact h2
  · left; exact hx (j, i) (by simpa using h2) g f hg hf
theorem QW.finK (x : List (Nat × Nat)) {acc : List Fp} {ks : List Nat} (hks : acc.reverse.map Fp.kind = ks := by exact rfl) (hk : okK x ops ks = true := by decide +kernel) (hx : ∀ p ∈ x, ∀ f g, acc.reverse[p.1]? = some f → acc.reverse[p.2]? = some g → f.clash g = false) (h : D Q .normal s E M) : QW P ops Q [] acc s E M :=
  ⟨okW_of (x := x) (by rw [hks]; exact hk) hx, h⟩
/-- A load at a place that is a number; a store there. -/
theorem QW.loadN (i k : Nat) {x : Operand} {T T' b o : Nat} {l : List Value} {v : Value} {ds : TypeDesc} {acc : List Fp} [hu : Und P T ds] (hv : l[k]? = some v) (ho : o = k) (hn : Nat.blt d s.n = true := by exact rfl) (hx : ev E x = some (.pointer (some ⟨b, o, none⟩)) := by exact rfl) (hi : hat M i = some (b, ob l T') := by exact rfl)
    (hg : aggB ds = false := by exact rfl)
    (c : QW P ops Q rest (.rd i k 1 :: acc) s ((d, v) :: E) M) : QW P ops Q (⟨some d, .load T x, t, pos, af, none⟩ :: rest) acc s E M := by
  subst ho
  exact QW.load i hn hx hi hg hv c
theorem QW.storeN (i k : Nat) {x y : Operand} {T T' b o : Nat} {l : List Value} {v : Value} {acc : List Fp} [hz : Siz P T 1] (hk : k < l.length) (ho : o = k) (hx : ev E x = some (.pointer (some ⟨b, o, none⟩)) := by exact rfl) (hy : ev E y = some v := by exact rfl) (hi : hat M i = some (b, ob l T') := by exact rfl)
    (hc : v.cells = [v].toArray := by exact rfl) (h1 : oneB v = true := by exact rfl) {M' : Hp} (hM : hset M i (ob (l.set k v) T') = M' := by simp only [hset]; rfl)
    (c : QW P ops Q rest (.wr i k 1 :: acc) s E M') : QW P ops Q (⟨none, .store T x y, t, pos, af, none⟩ :: rest) acc s E M := by
  subst ho
  exact QW.store i (vs := [v]) (l' := l.set o v) hx hy hi hc rfl (by simp [h1]) (Nat.ble_eq_true_of_le hk) rfl hM c
/-! A cut whose value is known. -/
def cutV (v : Value) (lo hi sz : Nat) : Value := match v with
  | .slice p _ cap => .slice (if cap = lo then p else p.map (·.add (lo * sz))) (hi - lo) (cap - lo)
  | _ => v
theorem cutV_sl {v : Value} {n lo hi : Nat} (sz : Nat) (h : SlV v n) (h1 : lo ≤ hi) (h2 : hi ≤ n) : SlV (cutV v lo hi sz) (hi - lo) ∧ (lo < hi → sB (cutV v lo hi sz) = sB v ∧ sO (cutV v lo hi sz) = sO v + lo * sz) := by
  obtain ⟨p, cap, rfl, hc, hp⟩ := h
  refine ⟨⟨_, _, rfl, by omega, fun h => ?_⟩, fun h => ?_⟩
  · have h0 := hp (by omega)
    rw [h0]
    simp only [cutV, Option.map_some]
    rw [if_neg (by omega)]
    simp only [add_at, sB, sO]
  · have h0 := hp (by omega)
    rw [h0]
    simp only [cutV, Option.map_some, sB, sO]
    rw [if_neg (by omega)]
    simp only [add_at]
    exact ⟨trivial, trivial⟩
theorem L.sliceX {T e sz n lo hi : Nat} {x : Operand} {y z : Option Operand} {v : Value} (h : SlV v n) [hT : Und P T (.slice e)] [hS : Siz P e sz]
    (h1 : lo ≤ hi) (h2 : hi ≤ n) (hn : Nat.blt d s.n = true := by exact rfl) (hx : ev E x = some v := by exact rfl)
    (hy : (y = none ∧ lo = 0) ∨ ∃ o q, y = some o ∧ ev E o = some (.int q (lo : Int))) (hz : (z = none ∧ hi = n) ∨ ∃ o q, z = some o ∧ ev E o = some (.int q (hi : Int)))
    (c : L P ops Q rest s ((d, cutV v lo hi sz) :: E) M) : L P ops Q (⟨some d, .slice T x y z none, t, pos, af, none⟩ :: rest) s E M := by
  obtain ⟨p, cap, hv, hc, hp⟩ := h
  have hh := fun (a : Act) (w : World) (hs : Sat s E M a w) => bounds_run (P := P) (w := w) (sl := true) (n := n) (cap := cap) (opt_ev hs hy) (opt_ev hs hz) h1 (Nat.le_trans h2 hc)
  refine L.calm (S := fun ρ => Instr.sliceAt T (ρ x) (y.map ρ) (z.map ρ) none) (v := cutV v lo hi sz) hn (fun _ => rfl) (fun a w hs => ?_) c
  show (Instr.sliceAt T (a.eval x) (y.map a.eval) (z.map a.eval) none).run P w = _
  rw [hs.ev hx, hv]
  unfold Instr.sliceAt
  rw [run_bind_ok und_run]
  simp only
  unfold Instr.slice
  rw [run_bind_ok und_run]
  simp only
  refine (run_bind_ok (hh a w hs)).trans ?_
  simp only
  rw [run_bind_ok (siz_run hS.out)]
  rfl
end
end Go.Proofs.YtpemoeincepilaaDoor.SL
