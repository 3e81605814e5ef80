import Derived.Test.YtbcaelhchmoigaaFrame
import Derived.Test.YtbcaelhchmoigaaLyB
import Derived.DataReads
set_option linter.unusedVariables false
set_option linter.unusedSimpArgs false
namespace Go.Proofs.Ytbcaelhchmoigaa.Ly
open Go.ChangeShapes Go.WideShapes Go.ChangeAt Go.RowKit SL
theorem pick_list {α : Type} (P : Nat → α → Prop) : ∀ n : Nat, (∀ i, i < n → ∃ y, P i y) → ∃ l : List α, l.length = n ∧ ∀ i y, l[i]? = some y → P i y
  | 0, _ => ⟨[], rfl, fun i y h => by simp at h⟩
  | n + 1, h => by
    obtain ⟨l, hl, hp⟩ := pick_list P n (fun i hi => h i (by omega))
    obtain ⟨y, hy⟩ := h n (by omega)
    refine ⟨l ++ [y], by simp [hl], fun i z hz => ?_⟩
    rcases Nat.lt_or_ge i n with hlt | hge
    · rw [List.getElem?_append_left (by omega)] at hz; exact hp i z hz
    · rw [List.getElem?_append_right (by omega)] at hz
      have e : i = n := by
        rcases Nat.lt_or_ge i (n + 1) with h1 | h1
        · omega
        · rw [List.getElem?_eq_none (by simp; omega)] at hz; simp at hz
      subst e
      rw [hl, Nat.sub_self] at hz
      simp at hz
      subst hz; exact hy
theorem add_atF (b off n : Nat) : (⟨b, off, none⟩ : Addr).add n = ⟨b, off + n, none⟩ := by unfold Addr.add; split <;> simp_all
theorem flat_cell {α : Type} {enc : α → List Value} {n : Nat} (hn : 0 < n) (he : ∀ x, (enc x).length = n) {l : List α} {k : Nat} {v : Value} (h : (l.flatMap enc)[k]? = some v) : ∃ y, l[k / n]? = some y ∧ (enc y)[k % n]? = some v := by
  have hlt := (List.getElem?_eq_some_iff.1 h).1
  rw [flat_len he] at hlt
  have hk : k / n < l.length := (Nat.div_lt_iff_lt_mul hn).2 hlt
  obtain ⟨y, hy⟩ : ∃ y, l[k / n]? = some y := ⟨_, List.getElem?_eq_getElem hk⟩
  refine ⟨y, hy, ?_⟩
  rw [← flat_get he l _ y hy _ (Nat.mod_lt _ hn), Nat.mul_comm, Nat.div_add_mod]; exact h
theorem open_rowsG {α : Type} {H : Type} {enc : TypeId × Value → H} {W : World} {base : Nat} {sp : Nat → Bool} {held : Bool} {t e : TypeId} {fuel n : Nat} {cs : List Value} {x : DataW H × List MemPlace} (ht : Try.prog.underlying t = some (.slice e)) (hc : Try.prog.cellsOf e = n + 1)
    (en : α → List Value) (hen : ∀ y, (en y).length = n + 1) (ok : α → Prop) (hel : ∀ fuel cs x, cs.length = n + 1 → DataW.trod enc Try.prog W base sp held fuel e cs = some x → ∃ y, cs = en y ∧ ok y)
    (hf : DataW.trod enc Try.prog W base sp held fuel t cs = some x) : ∃ (v : Value) (l : List α), cs = [v] ∧ (∀ y ∈ l, ok y) ∧ l.length ≤ maxLen ∧ Rd W [] v l.length (l.flatMap en) := by
  rcases DataW.trod_slice ht hf with ⟨h0, _⟩ | ⟨a', len, cap, elems, rest, m, _, hcs, _, hb, hl, hm, hlen, hes, hsp, hns⟩
  · exact ⟨_, [], h0, fun y hy => by simp at hy, Nat.zero_le _, Rd.nil⟩
  · rw [hc] at hes
    have each : ∀ i, i < len → ∃ y : α, ok y ∧ ∀ k v, (en y)[k]? = some v → W.cell? ((a'.add (i * (n + 1))).add k) = some v := by
      intro i hi
      have h1 := hes i hi
      rw [List.getElem?_eq_getElem (by omega), Option.bind_eq_some_iff] at h1
      obtain ⟨cs', hcs', hy⟩ := h1
      obtain ⟨_, hlen9, hcell⟩ := World.cells?_some hcs'
      obtain ⟨y, rfl, hyo⟩ := hel _ _ _ hlen9 hy
      refine ⟨y, hyo, fun k v hk => ?_⟩
      have hk9 : k < n + 1 := by
        have := (List.getElem?_eq_some_iff.1 hk).1
        rw [hen] at this; exact this
      rw [hcell k hk9]; exact hk
    obtain ⟨l, hll, hp⟩ := pick_list _ len each
    refine ⟨_, l, hcs, fun y hy => ?_, by omega, ?_⟩
    · obtain ⟨i, hi⟩ := List.getElem?_of_mem hy
      exact (hp i y hi).1
    · cases len with
      | zero =>
        have : l = [] := List.length_eq_zero_iff.1 hll
        subst this
        exact Rd.empty ⟨_, _, rfl, Nat.zero_le _, fun h => absurd h (by simp)⟩ _
      | succ q =>
        obtain ⟨b', off, spot⟩ := a'
        obtain ⟨y0, hy0, hc0⟩ := each 0 (by omega)
        obtain ⟨v0, hv0⟩ : ∃ v, (en y0)[0]? = some v := ⟨_, List.getElem?_eq_getElem (by rw [hen]; omega)⟩
        have h0 : W.cell? ⟨b', off, spot⟩ = some v0 := by simpa [Addr.add] using hc0 0 _ hv0
        have hs : spot = none := World.cell?_spot h0
        subst hs
        rw [hll]
        refine ⟨SlV.mk _ _ hl, fun _ => ⟨?_, by simp, fun k v hk => ?_⟩⟩
        · show b' < W.heap.size
          rcases Nat.lt_or_ge b' W.heap.size with h | h
          · exact h
          · unfold World.cell? at h0
            rw [Array.getElem?_eq_none h] at h0; simp at h0
        · obtain ⟨y, hy, hv⟩ := flat_cell (Nat.succ_pos n) hen hk
          have := (hp _ y hy).2 _ v hv
          rw [add_atF, add_atF] at this
          show W.cell? ⟨b', off + k, none⟩ = some v
          rw [show off + k = off + k / (n + 1) * (n + 1) + k % (n + 1) by rw [Nat.add_assoc, Nat.mul_comm, Nat.div_add_mod]]
          exact this
theorem trod_line {H : Type} {enc : TypeId × Value → H} {W : World} {base : Nat} {sp : Nat → Bool} {held : Bool} {fuel : Nat} {cs : List Value} {x : DataW H × List MemPlace} (hl : cs.length = 11)
    (hf : DataW.trod enc Try.prog W base sp held fuel 37 cs = some x) : ∃ y : Ln, cs = Ln.vs y ∧ y.ok := by
  have hc3 : Try.prog.cellsOf 3 = 1 := by kernel_rfl
  have hc2 : Try.prog.cellsOf 2 = 1 := by kernel_rfl
  have hcm : Try.prog.cellsOf 33 = 4 := by kernel_rfl
  have hci : Try.prog.cellsOf 35 = 9 := by kernel_rfl
  obtain ⟨l0, g0, v0⟩ := field_int Try.underlying37 hf 0 0 rfl Try.underlying3 hc3
  obtain ⟨l2, g2, v2⟩ := field_int Try.underlying37 hf 2 10 rfl Try.underlying3 hc3
  obtain ⟨n, y, hi⟩ := field_sub Try.underlying37 hf 1 1 9 rfl hci
  obtain ⟨a0, h0, w0⟩ := field_int Try.underlying35 hi 0 0 rfl Try.underlying3 hc3
  obtain ⟨a1, h1, w1⟩ := field_int Try.underlying35 hi 1 1 rfl Try.underlying3 hc3
  obtain ⟨a2, h2, w2⟩ := field_int Try.underlying35 hi 2 2 rfl Try.underlying3 hc3
  obtain ⟨a3, h3, w3⟩ := field_int Try.underlying35 hi 3 3 rfl Try.underlying3 hc3
  obtain ⟨n', y', hm⟩ := field_sub Try.underlying35 hi 4 4 4 rfl hcm
  obtain ⟨a8, h8, w8⟩ := field_int Try.underlying35 hi 5 8 rfl Try.underlying2 hc2
  obtain ⟨a4, h4, w4⟩ := field_int Try.underlying33 hm 0 0 rfl Try.underlying3 hc3
  obtain ⟨a5, h5, w5⟩ := field_int Try.underlying33 hm 1 1 rfl Try.underlying3 hc3
  obtain ⟨a6, h6, w6⟩ := field_int Try.underlying33 hm 2 2 rfl Try.underlying3 hc3
  obtain ⟨a7, h7, w7⟩ := field_int Try.underlying33 hm 3 3 rfl Try.underlying2 hc2
  clear hf hm hi
  match cs, hl with
  | [c0, c1, c2, c3, c4, c5, c6, c7, c8, c9, c10], _ =>
    simp at g0 g2 h0 h1 h2 h3 h4 h5 h6 h7 h8
    subst g0 g2 h0 h1 h2 h3 h4 h5 h6 h7 h8
    exact ⟨⟨l0, ⟨a0, a1, a2, a3, a4, a5, a6, a7, a8⟩, l2⟩, rfl, int_of_wf v0, ⟨int_of_wf w7, int_of_wf w8⟩, int_of_wf v2⟩
def Lines (W : World) (v : Value) (l : List Ln) : Prop := (∀ x ∈ l, x.ok) ∧ l.length ≤ maxLen ∧ Rd W [] v l.length (l.flatMap Ln.vs)
set_option maxRecDepth 100000 in
theorem _root_.Go.Proofs.Ytbcaelhchmoigaa.open_lines {H : Type} {enc : TypeId × Value → H} {W : World} {base b : Nat} {sp : Nat → Bool} {held : Bool} {r : Reach} {v : Value} {d : DataW H} {ps : List MemPlace} (hok : Value.okWide Try.prog W r b 22 v)
    (h : DataW.Trod enc Try.prog W base sp held 22 v d ps) : ∃ l : List Ln, Lines W v l := by
  obtain ⟨a, len, cap, rfl⟩ := okWide_slice Try.underlying22 hok
  obtain ⟨fuel, hf⟩ := h
  obtain ⟨v', l, hv, h1, h2, h3⟩ := open_rowsG Try.underlying22 (show Try.prog.cellsOf 37 = 10 + 1 by kernel_rfl) Ln.vs vs_len Ln.ok (fun _ _ _ hl hf => trod_line hl hf) hf
  have e : (.slice a len cap : Value) = v' := by simpa [Value.cells] using hv
  subst e
  exact ⟨l, h1, h2, h3⟩
end Go.Proofs.Ytbcaelhchmoigaa.Ly
