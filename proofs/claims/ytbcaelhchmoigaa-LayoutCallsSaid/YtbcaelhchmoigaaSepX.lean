import Derived.Test.YtbcaelhchmoigaaSepU
import Derived.Lib.UnsafeStr
import Derived.Lib.Builder
set_option linter.unusedVariables false
set_option linter.unusedSimpArgs false
namespace Go.Proofs.Ytbcaelhchmoigaa.SL
open Go Go.RowKit
def enc8 (l : List UInt8) : List Value := l.map fun b => Value.int .u8 b.toNat
theorem enc8_app (a b : List UInt8) : enc8 (a ++ b) = enc8 a ++ enc8 b := by simp [enc8]
def bG (bs : List UInt8) (y : OS) : Prop := osG 1 bs.length (enc8 bs) y ∧ (y = none ↔ bs = [])
section
variable {P : Program} {ops : Array Oper} {Q : Exit → Act → World → Prop} {s : St} {E : Env} {M : Hp} {rest : List Oper} {d t : Nat} {pos : String} {af : Array Edge}
theorem append_run2 {T T2 dd : Nat} {x y : Operand} {a : Act} {w w' : World} {v u r : Value} (hs : Sat s E M a w) (hx : ev E x = some v) (hy : ev E y = some u) (h : (Builtin.append_ #[T, T2] t #[v, u]).run P w = .ok r w') :
    (execOp a.eval ⟨some dd, .call { callee := .builtin .append, args := #[x, y], argTypes := #[T, T2] }, t, pos, af, none⟩).run P w = .ok (.value r) w' := by
  show Sem.run P (do let d ← resolve a.eval { callee := .builtin .append, args := #[x, y], argTypes := #[T, T2] } t; invoke d.target d.args) w = _
  unfold resolve
  simp only [List.map_toArray, List.map_cons, List.map_nil, hs.ev hx, hs.ev hy]
  exact run_value (s := Builtin.append_ #[T, T2] t #[v, u]) h
class Byt (P : Program) (e : TypeId) : Prop where
  out : ∃ i, P.info? e = some i ∧ i.zero = some (.int .u8 0) ∧ i.size = 1 ∧ i.bytes = 1
theorem Byt.of {e : TypeId} (h : ((P.info? e).bind fun i => i.zero.map fun z => (z, i.size, i.bytes)) = some (.int .u8 0, 1, 1)) : Byt P e := by
  constructor
  cases hi : P.info? e with
  | none => rw [hi] at h; cases h
  | some i =>
    rw [hi] at h
    simp only [Option.bind_some] at h
    cases hz : i.zero with
    | none => rw [hz] at h; cases h
    | some z =>
      rw [hz] at h
      simp only [Option.map_some, Option.some.injEq, Prod.mk.injEq] at h
      obtain ⟨rfl, h2, h3⟩ := h
      exact ⟨i, rfl, hz, h2, h3⟩
theorem L.appendC (L1 : Hp) {T Ts e m : Nat} {cs : List Value} {y : OS} {L2 : Hp} {b : ByteArray} {x z : Operand} [hT : Und P T (.slice e)] [hS : Und P Ts .string] [hR : Byt P e] (hG : osG 1 m cs y) (hM : M = L1 ++ osC e y L2)
    (h63 : m + b.size ≤ maxLen) (hb : m + b.size ≤ 140737488355328)
    (hd : Nat.blt d s.n = true := by exact rfl) (hx : ev E x = some (osV m y) := by exact rfl) (hz : ev E z = some (.string b) := by exact rfl)
    (c : ∀ y', osG 1 (m + b.size) (cs ++ enc8 b.data.toList) y' → (y' = none ↔ y = none ∧ b.size = 0) → L P ops Q rest s ((d, osV (m + b.size) y') :: E) (L1 ++ osC e y' L2)) :
    L P ops Q (⟨some d, .call { callee := .builtin .append, args := #[x, z], argTypes := #[T, Ts] }, t, pos, af, none⟩ :: rest) s E M := by
  intro a w hs
  obtain ⟨ti, r1, r2, r3, r4⟩ := hR.out
  have hat0 := hs.at_
  rw [hM] at hat0
  refine wpListIn_plain rfl fun K hK => ⟨fun _ _ => trivial, ?_⟩
  rw [Oper.semAt_eq _ _ _ (by intro c h; cases h)]
  have hown := own_row hG hat0
  have hmm : maxLen = 9223372036854775807 := rfl
  have key : ∃ v' w', (Builtin.append_ #[T, Ts] t #[osV m y, .string b]).run P w = .ok v' w' ∧ w'.ownsRow 0 e 1 v' (m + b.size) (cs ++ enc8 b.data.toList) ∧ w.grownBy w' (osV m y).ownBlock ∧
      (v' = .slice none 0 0 ↔ osV m y = .slice none 0 0 ∧ b.size = 0) ∧ (v'.ownBlock = (osV m y).ownBlock ∨ v'.ownBlock = some w.heap.size) := by
    obtain ⟨v', w', hr, ho, hg, hnil⟩ := Lib.run_append_own_string (P := P) w 0 T Ts t e ti hT.out hS.out r1 r2 r3 r4 _ m cs hown b h63 hb (Nat.zero_le _)
    refine ⟨v', w', hr, ho, hg, hnil, ?_⟩
    rcases y with _ | ⟨g, l, cap⟩
    · by_cases h0 : b.size = 0
      · have h1 : v' = .slice none 0 0 := hnil.2 ⟨rfl, h0⟩
        left; rw [h1]; rfl
      · have h2 := run_append_nil_string (P := P) w T Ts t e ti (.int .u8 0) hT.out hS.out r1 r2 b (by omega) (by omega) (by rw [r4]; omega)
        have h3 : osV m none = .slice none 0 0 := rfl
        rw [h3, h2] at hr
        cases hr
        right; rfl
    · obtain ⟨g1, g2, g3, g4⟩ := hG
      have hh := hat0.holds (g, ob l e) (List.mem_append_right _ List.mem_cons_self)
      have hl : l.length = cap := by simpa using g1
      by_cases hroom : m + b.size ≤ cap
      · have h2 := Lib.run_append_room_string (P := P) w T Ts t e ti hT.out hS.out r1 r3 g m cap l.toArray hh b hroom (by simp; omega)
        have h3 : osV m (some (g, l, cap)) = .slice (some ⟨g, 0, none⟩) m cap := rfl
        rw [h3, h2] at hr
        cases hr
        left; rfl
      · have holds : ∀ j u, cs[j]? = some u → w.cell? ((⟨g, 0, none⟩ : Addr).add j) = some u := hown.cells (g := g) rfl
        have hcl : cs.length = m := by have := (show osG 1 m cs (some (g, l, cap)) from ⟨g1, g2, g3, g4⟩).len; simpa using this
        have h2 := Lib.run_append_grow_string (P := P) w T Ts t e ti (.int .u8 0) hT.out hS.out r1 r2 ⟨g, 0, none⟩ m cap cs (by rw [r3]; simpa using hcl) holds b (by omega) (by omega) (by rw [r4]; exact growslice_fits (by omega) (by omega))
        have h3 : osV m (some (g, l, cap)) = .slice (some ⟨g, 0, none⟩) m cap := rfl
        rw [h3, h2] at hr
        cases hr
        right; rfl
  obtain ⟨v', w', hr, ho, hg, hnil, hat'⟩ := key
  rw [append_run2 hs hx hz hr]
  have hyn : osV m y = .slice none 0 0 → y = none := fun h => by
    rcases y with _ | ⟨b, l, cap⟩
    · rfl
    · simp [osV] at h
  obtain ⟨y', rfl, hG', hw'⟩ := At.grow hG hat0 ho hg hat' (fun e => hyn (hnil.1 e).1)
  refine hK _ _ (c y' hG' ⟨fun h => ?_, fun h => ?_⟩ _ _ (hs.put hd _ hw'))
  · subst h
    have hm0 := hG'.1
    rw [hm0] at hnil
    have := hnil.1 rfl
    exact ⟨hyn this.1, this.2⟩
  · obtain ⟨rfl, h0⟩ := h
    have := hnil.2 ⟨rfl, h0⟩
    rcases y' with _ | ⟨b', l', cap'⟩
    · rfl
    · simp [osV] at this
end
end Go.Proofs.Ytbcaelhchmoigaa.SL
