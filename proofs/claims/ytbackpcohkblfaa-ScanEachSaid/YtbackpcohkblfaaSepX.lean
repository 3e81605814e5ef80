/- The separation logic's rules for strings.Builder: pointers compared, turned to unsafe ones and back; a text appended to bytes; bytes told as a text. No program in sight. -/
import Derived.Test.YtbackpcohkblfaaSepU
import Derived.Lib.UnsafeStr
import Derived.Lib.Builder
set_option linter.unusedVariables false
set_option linter.unusedSimpArgs false
namespace Go.Proofs.Ytbackpcohkblfaa.SL
open Go Go.RowKit

def enc8 (l : List UInt8) : List Value := l.map fun b => Value.int .u8 b.toNat
theorem enc8_len (l : List UInt8) : (enc8 l).length = l.length := by simp [enc8]
theorem enc8_app (a b : List UInt8) : enc8 (a ++ b) = enc8 a ++ enc8 b := by simp [enc8]
theorem enc8_str (s : ByteArray) : Lib.strCells s = enc8 s.data.toList := rfl
/-- The builder's slice: nil as long as nothing is in it. -/
def bG (bs : List UInt8) (y : OS) : Prop := osG 1 bs.length (enc8 bs) y ∧ (y = none ↔ bs = [])
section
variable {P : Program} {ops : Array Oper} {Q : Exit → Act → World → Prop} {s : St} {E : Env} {M : Hp} {rest : List Oper} {d t : Nat} {pos : String} {af : Array Edge}

theorem D.anyR {ops : Array Oper} {fuel : Nat} {listed : Array Bool} {ro : Option Nat} (hro : s.ro = ro := by exact rfl) (h : N P ops Q fuel listed s E M) : D (Exit.then (wpAnyIn (fen ro) 0 P .any ops Q fuel listed) Q) .normal s E M := by subst hro; exact D.any h
class Ptr (P : Program) (T : TypeId) (e : outParam TypeId) : Prop where
  out : P.underlying T = some (.pointer e) ∧ ∃ j, P.info? e = some j ∧ j.size ≠ 0
theorem Ptr.of {T e : TypeId} (h1 : P.underlying T = some (.pointer e)) (h2 : ((P.info? e).map fun j => Nat.blt 0 j.size) = some true) : Ptr P T e := ⟨h1, by
  cases hi : P.info? e with
  | none => rw [hi] at h2; cases h2
  | some j =>
    rw [hi] at h2
    simp only [Option.map_some, Option.some.injEq, Nat.blt_eq] at h2
    exact ⟨j, rfl, by omega⟩⟩
theorem ptr_nil_run {T e : TypeId} {w : World} [h : Ptr P T e] {x : Operand} (a : Option Addr) :
    (do eqGuard .eql T x (.const (.pointer none)) (.pointer a) (.pointer none); binOp .eql T (.pointer a) (.pointer none) : Sem Value).run P w = .ok (.bool a.isNone) w := by
  obtain ⟨hp, j, hj, hs⟩ := h.out
  have h : ∀ d : Nat, (Op.equalIn (d + 1) T (.pointer a) (.pointer none)).run P w = .ok a.isNone w := fun d => by
    cases a <;> simp [Op.equalIn, run_underlying hp, sizeOf, typeInfo, hj, hs]
  simp only [binOp]
  cases a <;> simp [eqGuard, Op.equal, Op.maxDepth, h 9999]
theorem L.ptrNil {T T' e : TypeId} [Ptr P T e] {x : Operand} {a : Option Addr} (hn : Nat.blt d s.n = true := by exact rfl) (hx : ev E x = some (.pointer a) := by exact rfl)
    (c : L P ops Q rest s ((d, .bool a.isNone) :: E) M) : L P ops Q (⟨some d, .binOp .eql T x (.const (.pointer none)) T', t, pos, af, none⟩ :: rest) s E M :=
  L.val hn (fun b w hs => ⟨w, by
    refine run_value ?_
    rw [hs.ev hx]
    exact ptr_nil_run a, hs.at_⟩) c
theorem L.ptrNe {T T' e : TypeId} [hp : Ptr P T e] {x y : Operand} {a : Addr} (hn : Nat.blt d s.n = true := by exact rfl) (hx : ev E x = some (.pointer (some a)) := by exact rfl) (hy : ev E y = some (.pointer (some a)) := by exact rfl)
    (c : L P ops Q rest s ((d, .bool false) :: E) M) : L P ops Q (⟨some d, .binOp .neq T x y T', t, pos, af, none⟩ :: rest) s E M :=
  L.val hn (fun b w hs => ⟨w, by
    refine run_value ?_
    rw [hs.ev hx, hs.ev hy]
    obtain ⟨h1, j, h2, h3⟩ := hp.out
    have := Lib.run_neq_ptr_same (P := P) w a h1 h2
    simp only [Sem.run_bind]
    have e0 : (eqGuard .neq T x y (.pointer (some a)) (.pointer (some a))).run P w = .ok () w := by unfold eqGuard; rfl
    rw [e0]
    exact this, hs.at_⟩) c
/-- A pointer as an unsafe one. -/
theorem L.toUnsafe (i : Nat) {T T' e b : TypeId} {l : List Value} {T2 : TypeId} [hp : Ptr P T e] [hu : Und P T' .unsafePointer] {x : Operand} (hn : Nat.blt d s.n = true := by exact rfl) (hx : ev E x = some (.pointer (some ⟨b, 0, none⟩)) := by exact rfl) (hi : hat M i = some (b, ob l T2) := by exact rfl) (hl : Nat.blt 0 l.length = true := by exact rfl)
    (c : L P ops Q rest s ((d, .pointer (some ⟨b, 0, none⟩)) :: E) M) : L P ops Q (⟨some d, .convert T T' x, t, pos, af, none⟩ :: rest) s E M :=
  L.calm (S := fun ρ => convert T T' (ρ x)) hn (fun _ => rfl) (fun a w hs => by
    show (convert T T' (a.eval x)).run P w = _
    rw [hs.ev hx]
    obtain ⟨h1, j, h2, h3⟩ := hp.out
    have hh := hs.at_.holds _ (hat_mem hi)
    exact Lib.run_to_unsafe (P := P) w ⟨b, 0, none⟩ h1 hu.out h2 h3 (e := T2) (cells := l.length) (by simp [World.shape?, hh]) (by simpa [Nat.blt_eq] using hl)) c
/-- .. and back. -/
theorem L.fromUnsafe (i : Nat) {T T' e b : TypeId} {l : List Value} [hp : Ptr P T e] [hu : Und P T' .unsafePointer] {x : Operand} (hn : Nat.blt d s.n = true := by exact rfl) (hx : ev E x = some (.pointer (some ⟨b, 0, none⟩)) := by exact rfl) (hi : hat M i = some (b, ob l e) := by exact rfl) (hl : liesAt P P.depth e (l.length / P.cellsOf e) 0 e 1 = true := by kernel_rfl)
    (c : L P ops Q rest s ((d, .pointer (some ⟨b, 0, none⟩)) :: E) M) : L P ops Q (⟨some d, .convert T' T x, t, pos, af, none⟩ :: rest) s E M :=
  L.calm (S := fun ρ => convert T' T (ρ x)) hn (fun _ => rfl) (fun a w hs => by
    show (convert T' T (a.eval x)).run P w = _
    rw [hs.ev hx]
    obtain ⟨h1, j, h2, h3⟩ := hp.out
    have hh := hs.at_.holds _ (hat_mem hi)
    exact Lib.run_from_unsafe (P := P) w ⟨b, 0, none⟩ hu.out h1 h2 (e := e) (cells := l.length) (by simp [World.shape?, hh]) hl) c
theorem append_run2 {T T2 dd : Nat} {x y : Operand} {a : Act} {w w' : World} {v u r : Value} (hs : Sat s E M a w) (hx : ev E x = some v) (hy : ev E y = some u) (h : (Builtin.append_ #[T, T2] t #[v, u]).run P w = .ok r w') :
    (execOp a.eval ⟨some dd, .call { callee := .builtin .append, args := #[x, y], argTypes := #[T, T2] }, t, pos, af, none⟩).run P w = .ok (.value r) w' := by
  show Sem.run P (do let d ← resolve a.eval { callee := .builtin .append, args := #[x, y], argTypes := #[T, T2] } t; invoke d.target d.args) w = _
  unfold resolve
  simp only [List.map_toArray, List.map_cons, List.map_nil, hs.ev hx, hs.ev hy]
  exact run_value (s := Builtin.append_ #[T, T2] t #[v, u]) h
class Byt (P : Program) (e : TypeId) : Prop where
  out : ∃ i, P.info? e = some i ∧ i.zero = some (.int .u8 0) ∧ i.size = 1 ∧ i.bytes = 1
theorem Byt.of {e : TypeId} (h : ((P.info? e).bind fun i => i.zero.map fun z => (z, i.size, i.bytes)) = some (.int .u8 0, 1, 1)) : Byt P e := by
  constructor
  cases hi : P.info? e with
  | none => rw [hi] at h; cases h
  | some i =>
    rw [hi] at h
    simp only [Option.bind_some] at h
    cases hz : i.zero with
    | none => rw [hz] at h; cases h
    | some z =>
      rw [hz] at h
      simp only [Option.map_some, Option.some.injEq, Prod.mk.injEq] at h
      obtain ⟨rfl, h2, h3⟩ := h
      exact ⟨i, rfl, hz, h2, h3⟩
/-- A text is appended to bytes of one's own. -/
theorem L.appendC (L1 : Hp) {T Ts e m : Nat} {cs : List Value} {y : OS} {L2 : Hp} {b : ByteArray} {x z : Operand} [hT : Und P T (.slice e)] [hS : Und P Ts .string] [hR : Byt P e] (hG : osG 1 m cs y) (hM : M = L1 ++ osC e y L2)
    (h63 : m + b.size ≤ maxLen) (hb : m + b.size ≤ 140737488355328)
    (hd : Nat.blt d s.n = true := by exact rfl) (hx : ev E x = some (osV m y) := by exact rfl) (hz : ev E z = some (.string b) := by exact rfl)
    (c : ∀ y', osG 1 (m + b.size) (cs ++ enc8 b.data.toList) y' → (y' = none ↔ y = none ∧ b.size = 0) → L P ops Q rest s ((d, osV (m + b.size) y') :: E) (L1 ++ osC e y' L2)) :
    L P ops Q (⟨some d, .call { callee := .builtin .append, args := #[x, z], argTypes := #[T, Ts] }, t, pos, af, none⟩ :: rest) s E M := by
  intro a w hs
  obtain ⟨ti, r1, r2, r3, r4⟩ := hR.out
  have hat0 := hs.at_
  rw [hM] at hat0
  refine wpListIn_plain rfl fun K hK => ⟨fun _ _ => trivial, ?_⟩
  rw [Oper.semAt_eq _ _ _ (by intro c h; cases h)]
  have hown := own_row hG hat0
  have hmm : maxLen = 9223372036854775807 := rfl
  have key : ∃ v' w', (Builtin.append_ #[T, Ts] t #[osV m y, .string b]).run P w = .ok v' w' ∧ w'.ownsRow 0 e 1 v' (m + b.size) (cs ++ enc8 b.data.toList) ∧ w.grownBy w' (osV m y).ownBlock ∧
      (v' = .slice none 0 0 ↔ osV m y = .slice none 0 0 ∧ b.size = 0) ∧ (v'.ownBlock = (osV m y).ownBlock ∨ v'.ownBlock = some w.heap.size) := by
    obtain ⟨v', w', hr, ho, hg, hnil⟩ := Lib.run_append_own_string (P := P) w 0 T Ts t e ti hT.out hS.out r1 r2 r3 r4 _ m cs hown b h63 hb (Nat.zero_le _)
    refine ⟨v', w', hr, ho, hg, hnil, ?_⟩
    rcases y with _ | ⟨g, l, cap⟩
    · by_cases h0 : b.size = 0
      · have h1 : v' = .slice none 0 0 := hnil.2 ⟨rfl, h0⟩
        left; rw [h1]; rfl
      · have h2 := run_append_nil_string (P := P) w T Ts t e ti (.int .u8 0) hT.out hS.out r1 r2 b (by omega) (by omega) (by rw [r4]; omega)
        have h3 : osV m none = .slice none 0 0 := rfl
        rw [h3, h2] at hr
        cases hr
        right; rfl
    · obtain ⟨g1, g2, g3, g4⟩ := hG
      have hh := hat0.holds (g, ob l e) (List.mem_append_right _ List.mem_cons_self)
      have hl : l.length = cap := by simpa using g1
      by_cases hroom : m + b.size ≤ cap
      · have h2 := Lib.run_append_room_string (P := P) w T Ts t e ti hT.out hS.out r1 r3 g m cap l.toArray hh b hroom (by simp; omega)
        have h3 : osV m (some (g, l, cap)) = .slice (some ⟨g, 0, none⟩) m cap := rfl
        rw [h3, h2] at hr
        cases hr
        left; rfl
      · have holds : ∀ j u, cs[j]? = some u → w.cell? ((⟨g, 0, none⟩ : Addr).add j) = some u := hown.cells (g := g) rfl
        have hcl : cs.length = m := by have := (show osG 1 m cs (some (g, l, cap)) from ⟨g1, g2, g3, g4⟩).len; simpa using this
        have h2 := Lib.run_append_grow_string (P := P) w T Ts t e ti (.int .u8 0) hT.out hS.out r1 r2 ⟨g, 0, none⟩ m cap cs (by rw [r3]; simpa using hcl) holds b (by omega) (by omega) (by rw [r4]; exact growslice_fits (by omega) (by omega))
        have h3 : osV m (some (g, l, cap)) = .slice (some ⟨g, 0, none⟩) m cap := rfl
        rw [h3, h2] at hr
        cases hr
        right; rfl
  obtain ⟨v', w', hr, ho, hg, hnil, hat'⟩ := key
  rw [append_run2 hs hx hz hr]
  have hyn : osV m y = .slice none 0 0 → y = none := fun h => by
    rcases y with _ | ⟨b, l, cap⟩
    · rfl
    · simp [osV] at h
  obtain ⟨y', rfl, hG', hw'⟩ := At.grow hG hat0 ho hg hat' (fun e => hyn (hnil.1 e).1)
  refine hK _ _ (c y' hG' ⟨fun h => ?_, fun h => ?_⟩ _ _ (hs.put hd _ hw'))
  · subst h
    have hm0 := hG'.1
    rw [hm0] at hnil
    have := hnil.1 rfl
    exact ⟨hyn this.1, this.2⟩
  · obtain ⟨rfl, h0⟩ := h
    have := hnil.2 ⟨rfl, h0⟩
    rcases y' with _ | ⟨b', l', cap'⟩
    · rfl
    · simp [osV] at this
/-- Where bytes lie. -/
theorem L.sliceData {T e : Nat} {x : Operand} {b m cap : Nat} [Und P T (.slice e)] (hc : Nat.blt 0 cap = true) (hn : Nat.blt d s.n = true := by exact rfl) (hx : ev E x = some (.slice (some ⟨b, 0, none⟩) m cap) := by exact rfl)
    (c : L P ops Q rest s ((d, .pointer (some ⟨b, 0, none⟩)) :: E) M) : L P ops Q (⟨some d, .call { callee := .builtin .unsafeSliceData, args := #[x], argTypes := #[T] }, t, pos, af, none⟩ :: rest) s E M :=
  L.val hn (fun a w hs => ⟨w, by
    show Sem.run P (do let d ← resolve a.eval { callee := .builtin .unsafeSliceData, args := #[x], argTypes := #[T] } t; invoke d.target d.args) w = _
    unfold resolve
    simp only [List.map_toArray, List.map_cons, List.map_nil, hs.ev hx]
    have := Lib.run_unsafeSliceData_row (P := P) w #[T] t ⟨b, 0, none⟩ m cap (by simp [Nat.blt_eq] at hc; omega)
    exact run_value (s := Builtin.unsafeSliceData_ #[T] t #[.slice (some ⟨b, 0, none⟩) m cap]) this, hs.at_⟩) c
theorem L.sliceData0 {T e : Nat} {x : Operand} [Und P T (.slice e)] (hn : Nat.blt d s.n = true := by exact rfl) (hx : ev E x = some (.slice none 0 0) := by exact rfl)
    (c : L P ops Q rest s ((d, .pointer none) :: E) M) : L P ops Q (⟨some d, .call { callee := .builtin .unsafeSliceData, args := #[x], argTypes := #[T] }, t, pos, af, none⟩ :: rest) s E M :=
  L.val hn (fun a w hs => ⟨w, by
    show Sem.run P (do let d ← resolve a.eval { callee := .builtin .unsafeSliceData, args := #[x], argTypes := #[T] } t; invoke d.target d.args) w = _
    unfold resolve
    simp only [List.map_toArray, List.map_cons, List.map_nil, hs.ev hx]
    exact run_value (s := Builtin.unsafeSliceData_ #[T] t #[.slice none 0 0]) (Lib.run_unsafeSliceData_nil (P := P) w #[T] t 0 0), hs.at_⟩) c
/-- Bytes as a text; their block is let go. -/
theorem L.unsafeStr0 {T T2 : Nat} {x y : Operand} (hn : Nat.blt d s.n = true := by exact rfl) (hx : ev E x = some (.pointer none) := by exact rfl) (hy : ev E y = some (.int .i64 0) := by exact rfl)
    (c : L P ops Q rest s ((d, .string ⟨#[]⟩) :: E) M) : L P ops Q (⟨some d, .call { callee := .builtin .unsafeString, args := #[x, y], argTypes := #[T, T2] }, t, pos, af, none⟩ :: rest) s E M :=
  L.val hn (fun a w hs => ⟨w, by
    show Sem.run P (do let d ← resolve a.eval { callee := .builtin .unsafeString, args := #[x, y], argTypes := #[T, T2] } t; invoke d.target d.args) w = _
    unfold resolve
    simp only [List.map_toArray, List.map_cons, List.map_nil, hs.ev hx, hs.ev hy]
    exact run_value (s := Builtin.unsafeString_ #[T, T2] t #[.pointer none, .int .i64 0]) (Lib.run_unsafeString_none (P := P) w T T2 t none), hs.at_⟩) c
theorem L.unsafeStr {T T2 e b m : Nat} {x y : Operand} {l : List Value} {bs : List UInt8} {L1 L2 : Hp} [hp : Und P T (.pointer e)] (hc : P.cellsOf e = 1) (hM : M = L1 ++ (b, ob l e) :: L2) (h0 : bs ≠ []) (hm : bs.length = m) (hl : l.take m = enc8 bs) (h63 : m ≤ 9223372036854775807)
    (hn : Nat.blt d s.n = true := by exact rfl) (hx : ev E x = some (.pointer (some ⟨b, 0, none⟩)) := by exact rfl) (hy : ev E y = some (.int .i64 m) := by exact rfl)
    (c : L P ops Q rest s ((d, .string ⟨bs.toArray⟩) :: E) (L1 ++ L2)) : L P ops Q (⟨some d, .call { callee := .builtin .unsafeString, args := #[x, y], argTypes := #[T, T2] }, t, pos, af, none⟩ :: rest) s E M :=
  L.val hn (fun a w hs => by
    have hat0 := hs.at_
    rw [hM] at hat0
    have hh := hat0.holds (b, ob l e) (List.mem_append_right _ List.mem_cons_self)
    subst hm
    have hle : bs.length ≤ l.length := by
      have := congrArg List.length hl
      rw [List.length_take, enc8_len] at this; omega
    have hcell : ∀ j x, bs[j]? = some x → w.cell? ((⟨b, 0, none⟩ : Addr).add j) = some (.int .u8 x.toNat) := by
      intro j x hj
      rw [add_at, Nat.zero_add]
      refine cell_ob hh ?_
      have h1 : (l.take bs.length)[j]? = some (.int .u8 x.toNat) := by rw [hl]; simp [enc8, hj]
      rw [List.getElem?_take] at h1
      split at h1
      · exact h1
      · cases h1
    have hr := Lib.run_unsafeString_row (P := P) w T T2 t e hp.out hc b l.length (by simp [World.shape?, hh]) bs h0 hle h63 hcell
    refine ⟨w.freeze ⟨b, 0, none⟩ bs.length, ?_, ?_⟩
    · show Sem.run P (do let d ← resolve a.eval { callee := .builtin .unsafeString, args := #[x, y], argTypes := #[T, T2] } t; invoke d.target d.args) w = _
      unfold resolve
      simp only [List.map_toArray, List.map_cons, List.map_nil, hs.ev hx, hs.ev hy]
      exact run_value (s := Builtin.unsafeString_ #[T, T2] t #[.pointer (some ⟨b, 0, none⟩), .int .i64 bs.length]) hr
    · have hb0 : b < w.heap.size := some_lt hh
      have hfz : w.grownBy (w.freeze ⟨b, 0, none⟩ bs.length) (some b) := by
        unfold World.freeze
        split
        · exact ⟨rfl, rfl, rfl, Nat.le_refl _, fun _ _ _ => rfl⟩
        · refine ⟨rfl, rfl, rfl, by simp, fun k hk hne => ?_⟩
          simp only [Array.getElem?_modify]
          rw [if_neg (fun e => hne (by rw [← e]))]
      have hmine := hat0.mine (b, ob l e) (List.mem_append_right _ List.mem_cons_self)
      have hnd := hat0.nodup
      have hne : ∀ x ∈ L1 ++ L2, x.1 ≠ b := by
        intro x hx e0
        have hp : (L1 ++ (b, ob l e) :: L2).Perm ((b, ob l e) :: (L1 ++ L2)) := List.perm_middle
        have h2 : (List.map (fun x : Nat × Obj => x.1) ((b, ob l e) :: (L1 ++ L2))).Nodup := (hp.map _).nodup_iff.1 hnd
        simp only [List.map_cons, List.nodup_cons] at h2
        exact h2.1 (List.mem_map.2 ⟨x, hx, e0⟩)
      have hsub : ∀ x ∈ L1 ++ L2, x ∈ L1 ++ (b, ob l e) :: L2 := fun x hx => by
        rcases List.mem_append.1 hx with h | h
        · exact List.mem_append_left _ h
        · exact List.mem_append_right _ (List.mem_cons_of_mem _ h)
      refine ⟨hat0.keeps.trans (B := [b]) ⟨hfz.os, hfz.tape, hfz.output, hfz.size, fun k hk hn => hfz.block k hk (fun e => by cases e; simp at hn)⟩ (fun c hc => ?_), ?_, fun x hx => hat0.mine x (hsub x hx), fun x hx => ?_⟩
      · obtain rfl : c = b := by simpa using hc
        exact hmine
      · have hp : (L1 ++ (b, ob l e) :: L2).Perm ((b, ob l e) :: (L1 ++ L2)) := List.perm_middle
        have h2 : (List.map (fun x : Nat × Obj => x.1) ((b, ob l e) :: (L1 ++ L2))).Nodup := (hp.map _).nodup_iff.1 hnd
        simp only [List.map_cons, List.nodup_cons] at h2
        exact h2.2
      · rw [hfz.block x.1 (hat0.lt x (hsub x hx)) (fun e0 => hne x hx (by cases e0; rfl))]
        exact hat0.holds x (hsub x hx)) c
end
end Go.Proofs.Ytbackpcohkblfaa.SL
