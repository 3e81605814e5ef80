/- Naturals as arguments, opened. Conditions: none. -/
import Derived.Test.YtpemoeincepilaaDoorFrame
import Derived.Test.YtpemoeincepilaaDoorNtA
import Derived.DataReads
set_option linter.unusedVariables false
set_option linter.unusedSimpArgs false
namespace Go.Proofs.YtpemoeincepilaaDoor.Nt
open Go.ChangeShapes Go.WideShapes Go.ChangeAt Go.RowKit SL

theorem pick_list {α : Type} (P : Nat → α → Prop) : ∀ n : Nat, (∀ i, i < n → ∃ y, P i y) → ∃ l : List α, l.length = n ∧ ∀ i y, l[i]? = some y → P i y
  | 0, _ => ⟨[], rfl, fun i y h => by simp at h⟩
  | n + 1, h => by
    obtain ⟨l, hl, hp⟩ := pick_list P n (fun i hi => h i (by omega))
    obtain ⟨y, hy⟩ := h n (by omega)
    refine ⟨l ++ [y], by simp [hl], fun i z hz => ?_⟩
    rcases Nat.lt_or_ge i n with hlt | hge
    · rw [List.getElem?_append_left (by omega)] at hz; exact hp i z hz
    · rw [List.getElem?_append_right (by omega)] at hz
      have e : i = n := by
        rcases Nat.lt_or_ge i (n + 1) with h1 | h1
        · omega
        · rw [List.getElem?_eq_none (by simp; omega)] at hz; simp at hz
      subst e
      rw [hl, Nat.sub_self] at hz
      simp at hz
      subst hz; exact hy
theorem add_atF (b off n : Nat) : (⟨b, off, none⟩ : Addr).add n = ⟨b, off + n, none⟩ := by unfold Addr.add; split <;> simp_all
/-- What an argument of type api.Nat is. -/
def Nats (W : World) (v : Value) (l : List Nat) : Prop := okL l ∧ l.length ≤ maxLen ∧ RdN W [] v l
set_option maxRecDepth 100000 in
theorem _root_.Go.Proofs.YtpemoeincepilaaDoor.open_nat {H : Type} {enc : TypeId × Value → H} {W : World} {base b : Nat} {sp : Nat → Bool} {held : Bool} {r : Reach} {v : Value} {d : DataW H} {ps : List MemPlace} (hok : Value.okWide Tryd.prog W r b 23 v)
    (h : DataW.Trod enc Tryd.prog W base sp held 23 v d ps) : ∃ l : List Nat, Nats W v l := by
  obtain ⟨a, len0, cap0, rfl⟩ := okWide_slice Tryd.underlying23 hok
  obtain ⟨fuel, hf⟩ := h
  have hc : Tryd.prog.cellsOf 34 = 1 := by kernel_rfl
  rcases DataW.trod_slice Tryd.underlying23 hf with ⟨h0, _⟩ | ⟨a', len, cap, elems, rest, m, _, hcs, _, hb, hl, hm, hlen, hes, hsp, hns⟩
  · have e : (.slice a len0 cap0 : Value) = .slice none 0 0 := by simpa [Value.cells] using h0
    rw [e]
    exact ⟨[], (fun x hx => by cases hx), Nat.zero_le _, Rd.nil⟩
  · have e : (.slice a len0 cap0 : Value) = .slice (some a') len cap := by simpa [Value.cells] using hcs
    rw [e]
    rw [hc] at hes
    have each : ∀ i, i < len → ∃ x : Nat, x < 18446744073709551616 ∧ W.cell? (a'.add i) = some (.int .u64 (x : Int)) := by
      intro i hi
      have h1 := hes i hi
      rw [List.getElem?_eq_getElem (by omega), Option.bind_eq_some_iff] at h1
      obtain ⟨cs', hcs', hy⟩ := h1
      obtain ⟨_, hlen1, hcell⟩ := World.cells?_some hcs'
      obtain ⟨z, ez, _, hwf⟩ := DataW.trod_int Tryd.underlying34 hy
      have hmin : IntKind.u64.min = 0 := rfl
      have hmax : IntKind.u64.max = 18446744073709551615 := rfl
      have hz : 0 ≤ z ∧ z ≤ 18446744073709551615 := by
        simp only [Lit.wf, Bool.and_eq_true, decide_eq_true_eq] at hwf; omega
      refine ⟨z.toNat, by omega, ?_⟩
      have h2 := hcell 0 (by omega)
      have h3 : cs'[0]? = some (.int .u64 z) := by
        have := congrArg (fun l => l[0]?) ez
        simpa using this
      rw [Nat.mul_one] at h2
      have h4 : (a'.add i).add 0 = a'.add i := by unfold Addr.add; split <;> simp_all
      rw [h4] at h2
      rw [h2, show ((z.toNat : Nat) : Int) = z by omega]
      simpa using h3
    obtain ⟨l, hll, hp⟩ := pick_list _ len each
    refine ⟨l, fun x hx => ?_, by omega, ?_⟩
    · obtain ⟨i, hi⟩ := List.getElem?_of_mem hx
      exact (hp i x hi).1
    · unfold RdN
      cases len with
      | zero =>
        have : l = [] := List.length_eq_zero_iff.1 hll
        subst this
        exact Rd.empty ⟨_, _, rfl, Nat.zero_le _, fun h => absurd h (by simp)⟩ _
      | succ q =>
        obtain ⟨b', off, spot⟩ := a'
        obtain ⟨x0, _, hc0⟩ := each 0 (by omega)
        have h0 : W.cell? ⟨b', off, spot⟩ = some (.int .u64 (x0 : Int)) := by simpa [Addr.add] using hc0
        have hs : spot = none := World.cell?_spot h0
        subst hs
        rw [hll]
        refine ⟨SlV.mk _ _ hl, fun _ => ⟨?_, by simp, fun k v hk => ?_⟩⟩
        · show b' < W.heap.size
          rcases Nat.lt_or_ge b' W.heap.size with h | h
          · exact h
          · unfold World.cell? at h0
            rw [Array.getElem?_eq_none h] at h0; simp at h0
        · unfold u64s at hk
          rw [List.getElem?_map] at hk
          cases hlk : l[k]? with
          | none => rw [hlk] at hk; cases hk
          | some x =>
            rw [hlk] at hk
            have := (hp k x hlk).2
            rw [add_atF] at this
            show W.cell? ⟨b', off + k, none⟩ = some v
            rw [this]
            simpa [u64] using hk
end Go.Proofs.YtpemoeincepilaaDoor.Nt
