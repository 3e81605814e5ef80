/- A row of instructions as an argument, opened. Conditions: none. -/
import Derived.Test.YtakmpnmmcjnecaaFrame
import Derived.Test.YtakmpnmmcjnecaaAll
import Derived.DataReads
namespace Go.Proofs.Ytakmpnmmcjnecaa
open Go.ChangeShapes Go.WideShapes Go.ChangeAt Go.RowKit

theorem trod_inst {H : Type} {enc : TypeId × Value → H} {W : World} {base : Nat} {sp : Nat → Bool} {held : Bool} {fuel : Nat} {cs : List Value} {x : DataW H × List MemPlace} (hl : cs.length = 9)
    (hf : DataW.trod enc Try.prog W base sp held fuel 25 cs = some x) : ∃ y : Ins, cs = y.vs ∧ y.ok := by
  have hc3 : Try.prog.cellsOf 3 = 1 := by kernel_rfl
  have hc2 : Try.prog.cellsOf 2 = 1 := by kernel_rfl
  have hcm : Try.prog.cellsOf 23 = 4 := by kernel_rfl
  obtain ⟨a0, h0, w0⟩ := field_int Try.underlying25 hf 0 0 rfl Try.underlying3 hc3
  obtain ⟨a1, h1, w1⟩ := field_int Try.underlying25 hf 1 1 rfl Try.underlying3 hc3
  obtain ⟨a2, h2, w2⟩ := field_int Try.underlying25 hf 2 2 rfl Try.underlying3 hc3
  obtain ⟨a3, h3, w3⟩ := field_int Try.underlying25 hf 3 3 rfl Try.underlying3 hc3
  obtain ⟨n, y, hm⟩ := field_sub Try.underlying25 hf 4 4 4 rfl hcm
  obtain ⟨a8, h8, w8⟩ := field_int Try.underlying25 hf 5 8 rfl Try.underlying2 hc2
  obtain ⟨a4, h4, w4⟩ := field_int Try.underlying23 hm 0 0 rfl Try.underlying3 hc3
  obtain ⟨a5, h5, w5⟩ := field_int Try.underlying23 hm 1 1 rfl Try.underlying3 hc3
  obtain ⟨a6, h6, w6⟩ := field_int Try.underlying23 hm 2 2 rfl Try.underlying3 hc3
  obtain ⟨a7, h7, w7⟩ := field_int Try.underlying23 hm 3 3 rfl Try.underlying2 hc2
  clear hf hm
  match cs, hl with
  | [c0, c1, c2, c3, c4, c5, c6, c7, c8], _ =>
    simp at h0 h1 h2 h3 h4 h5 h6 h7 h8
    subst h0 h1 h2 h3 h4 h5 h6 h7 h8
    exact ⟨⟨a0, a1, a2, a3, a4, a5, a6, a7, a8⟩, rfl, int_of_wf w7, int_of_wf w8⟩
/-- What an argument of type []api.Inst is. -/
def Insts (W : World) (v : Value) (l : List Ins) : Prop :=
  (∀ x ∈ l, x.ok) ∧ ((l = [] ∧ ∃ a cap, v = .slice a 0 cap) ∨ ∃ b off cap, v = .slice (some ⟨b, off, none⟩) l.length cap ∧ InsRow W b off l ∧ b < W.heap.size)
theorem pick_list {α : Type} (P : Nat → α → Prop) : ∀ n : Nat, (∀ i, i < n → ∃ y, P i y) → ∃ l : List α, l.length = n ∧ ∀ i y, l[i]? = some y → P i y
  | 0, _ => ⟨[], rfl, fun i y h => by simp at h⟩
  | n + 1, h => by
    obtain ⟨l, hl, hp⟩ := pick_list P n (fun i hi => h i (by omega))
    obtain ⟨y, hy⟩ := h n (by omega)
    refine ⟨l ++ [y], by simp [hl], fun i z hz => ?_⟩
    rcases Nat.lt_or_ge i n with hlt | hge
    · rw [List.getElem?_append_left (by omega)] at hz; exact hp i z hz
    · rw [List.getElem?_append_right (by omega)] at hz
      have e : i = n := by
        rcases Nat.lt_or_ge i (n + 1) with h1 | h1
        · omega
        · rw [List.getElem?_eq_none (by simp; omega)] at hz; simp at hz
      subst e
      rw [hl, Nat.sub_self] at hz
      simp at hz
      subst hz; exact hy
theorem add_at (b off n : Nat) : (⟨b, off, none⟩ : Addr).add n = ⟨b, off + n, none⟩ := by unfold Addr.add; split <;> simp_all
set_option maxRecDepth 100000 in
theorem open_insts {H : Type} {enc : TypeId × Value → H} {W : World} {base b : Nat} {sp : Nat → Bool} {held : Bool} {r : Reach} {v : Value} {d : DataW H} {ps : List MemPlace} (hok : Value.okWide Try.prog W r b 38 v)
    (h : DataW.Trod enc Try.prog W base sp held 38 v d ps) : ∃ l : List Ins, Insts W v l := by
  obtain ⟨a, len, cap, rfl⟩ := okWide_slice Try.underlying38 hok
  obtain ⟨fuel, hf⟩ := h
  have hc : Try.prog.cellsOf 25 = 9 := by kernel_rfl
  rcases DataW.trod_slice Try.underlying38 hf with ⟨h0, _⟩ | ⟨a', len', cap', elems, rest, n, _, hcs, _, hb, hl, hm, hlen, hel, hsp, hns⟩
  · have e : (.slice a len cap : Value) = .slice none 0 0 := by simpa [Value.cells] using h0
    cases e
    exact ⟨[], fun x hx => by simp at hx, .inl ⟨rfl, none, 0, rfl⟩⟩
  · have e : (.slice a len cap : Value) = .slice (some a') len' cap' := by simpa [Value.cells] using hcs
    cases e
    rw [hc] at hel
    have each : ∀ i, i < len → ∃ y : Ins, y.ok ∧ ∀ k v, y.vs[k]? = some v → W.cell? ((a'.add (i * 9)).add k) = some v := by
      intro i hi
      have h1 := hel i hi
      rw [List.getElem?_eq_getElem (by omega), Option.bind_eq_some_iff] at h1
      obtain ⟨cs, hcs', hy⟩ := h1
      obtain ⟨_, hlen9, hcell⟩ := World.cells?_some hcs'
      obtain ⟨y, rfl, hyo⟩ := trod_inst hlen9 hy
      refine ⟨y, hyo, fun k v hk => ?_⟩
      have hk9 : k < 9 := by
        rcases Nat.lt_or_ge k 9 with h | h
        · exact h
        · rw [List.getElem?_eq_none (by rw [hlen9]; exact h)] at hk; simp at hk
      rw [hcell k hk9]; exact hk
    obtain ⟨l, hll, hp⟩ := pick_list _ len each
    refine ⟨l, fun x hx => ?_, ?_⟩
    · obtain ⟨i, hi⟩ := List.getElem?_of_mem hx
      exact (hp i x hi).1
    · cases len with
      | zero => exact .inl ⟨List.length_eq_zero_iff.1 hll, _, _, rfl⟩
      | succ m =>
        right
        obtain ⟨b', off, spot⟩ := a'
        obtain ⟨y, hy, hy2⟩ := each 0 (by omega)
        have h0 : W.cell? ⟨b', off, spot⟩ = some (.int .i64 y.op) := by simpa [Addr.add] using hy2 0 _ rfl
        have hs : spot = none := World.cell?_spot h0
        subst hs
        refine ⟨b', off, cap, by rw [hll], ?_, ?_⟩
        · intro j x hx k v hv
          have := (hp j x hx).2 k v hv
          rwa [add_at, add_at] at this
        · rcases Nat.lt_or_ge b' W.heap.size with h | h
          · exact h
          · unfold World.cell? at h0
            rw [Array.getElem?_eq_none h] at h0; simp at h0
set_option maxRecDepth 100000 in
theorem all_empty (a : Option Addr) (cap : Nat) (w : World) :
    Calls Try.prog 18 #[.slice a 0 cap] w fun e w' => e = .returned (.tuple #[.string ⟨#[]⟩, .int .i64 0]) ∧ Below w.heap.size w w' := by
  have hcv := conv_strS (start_s [] w w.heap.size)
  go_enter Try.func18, Try.ntmps18
  go_wp2_with fail
  go_loopw [4, 11] (fun v i wr => v = .slice none 0 0 ∧ i = .int .i64 0 ∧ w = wr) (fun _ _ _ => 0)
  case atStart => exact ⟨rfl, rfl, rfl⟩
  case round =>
    obtain ⟨rfl, rfl, rfl⟩ := hrel
    go_wp2_with fail
    go_ret2
    exact ⟨rfl, Below.refl _ _⟩
theorem insts_all {W : World} {v : Value} {l : List Ins} (h : Insts W v l) (hl : l.length ≤ 1000) (w : World) (hb : Below W.heap.size W w) :
    Calls Try.prog 18 #[v] w fun e w' => e = .returned (.tuple #[.string (outs l), .int .i64 (errOf (allOk l))]) ∧ Below w.heap.size w w' := by
  obtain ⟨hok, ⟨rfl, a, cap, rfl⟩ | ⟨b, off, cap, rfl, hr, hlt⟩⟩ := h
  · exact all_empty a cap w
  · refine all_any b off cap l w hl hok (fun j x hx k v hv => ?_) (Nat.lt_of_lt_of_le hlt hb.size)
    rw [hb.cell (p := ⟨b, off + j * 9 + k, none⟩) hlt]; exact hr j x hx k v hv
end Go.Proofs.Ytakmpnmmcjnecaa
