/- Limb programs, rows of limbs as arguments, opened. Conditions: none. -/
import Derived.Test.YtkjlgapkcdcmgaaFrame
import Derived.Test.YtkjlgapkcdcmgaaLk1
import Derived.Test.YtkjlgapkcdcmgaaSepY
import Derived.DataReads
set_option linter.unusedVariables false
set_option linter.unusedSimpArgs false
namespace Go.Proofs.Ytkjlgapkcdcmgaa
open Go.ChangeShapes Go.WideShapes Go.ChangeAt Go.RowKit SL

theorem pick_list {α : Type} (P : Nat → α → Prop) : ∀ n : Nat, (∀ i, i < n → ∃ y, P i y) → ∃ l : List α, l.length = n ∧ ∀ i y, l[i]? = some y → P i y
  | 0, _ => ⟨[], rfl, fun i y h => by simp at h⟩
  | n + 1, h => by
    obtain ⟨l, hl, hp⟩ := pick_list P n (fun i hi => h i (by omega))
    obtain ⟨y, hy⟩ := h n (by omega)
    refine ⟨l ++ [y], by simp [hl], fun i z hz => ?_⟩
    rcases Nat.lt_or_ge i n with hlt | hge
    · rw [List.getElem?_append_left (by omega)] at hz; exact hp i z hz
    · rw [List.getElem?_append_right (by omega)] at hz
      have e : i = n := by
        rcases Nat.lt_or_ge i (n + 1) with h1 | h1
        · omega
        · rw [List.getElem?_eq_none (by simp; omega)] at hz; simp at hz
      subst e
      rw [hl, Nat.sub_self] at hz
      simp at hz
      subst hz; exact hy
theorem add_atF (b off n : Nat) : (⟨b, off, none⟩ : Addr).add n = ⟨b, off + n, none⟩ := by unfold Addr.add; split <;> simp_all
theorem flat_cell {α : Type} {enc : α → List Value} {n : Nat} (hn : 0 < n) (he : ∀ x, (enc x).length = n) {l : List α} {k : Nat} {v : Value} (h : (l.flatMap enc)[k]? = some v) : ∃ y, l[k / n]? = some y ∧ (enc y)[k % n]? = some v := by
  have hlt := (List.getElem?_eq_some_iff.1 h).1
  rw [flat_len he] at hlt
  have hk : k / n < l.length := (Nat.div_lt_iff_lt_mul hn).2 hlt
  obtain ⟨y, hy⟩ : ∃ y, l[k / n]? = some y := ⟨_, List.getElem?_eq_getElem hk⟩
  refine ⟨y, hy, ?_⟩
  rw [← flat_get he l _ y hy _ (Nat.mod_lt _ hn), Nat.mul_comm, Nat.div_add_mod]; exact h
/-- A slice whose elements are told, each of n cells. -/
theorem open_rowsG {α : Type} {H : Type} {enc : TypeId × Value → H} {W : World} {base : Nat} {sp : Nat → Bool} {held : Bool} {t e : TypeId} {fuel n : Nat} {cs : List Value} {x : DataW H × List MemPlace} (ht : Try.prog.underlying t = some (.slice e)) (hc : Try.prog.cellsOf e = n + 1)
    (en : α → List Value) (hen : ∀ y, (en y).length = n + 1) (ok : α → Prop) (hel : ∀ fuel cs x, cs.length = n + 1 → DataW.trod enc Try.prog W base sp held fuel e cs = some x → ∃ y, cs = en y ∧ ok y)
    (hf : DataW.trod enc Try.prog W base sp held fuel t cs = some x) : ∃ (v : Value) (l : List α), cs = [v] ∧ (∀ y ∈ l, ok y) ∧ l.length ≤ maxLen ∧ Rd W [] v l.length (l.flatMap en) := by
  rcases DataW.trod_slice ht hf with ⟨h0, _⟩ | ⟨a', len, cap, elems, rest, m, _, hcs, _, hb, hl, hm, hlen, hes, hsp, hns⟩
  · exact ⟨_, [], h0, fun y hy => by simp at hy, Nat.zero_le _, Rd.nil⟩
  · rw [hc] at hes
    have each : ∀ i, i < len → ∃ y : α, ok y ∧ ∀ k v, (en y)[k]? = some v → W.cell? ((a'.add (i * (n + 1))).add k) = some v := by
      intro i hi
      have h1 := hes i hi
      rw [List.getElem?_eq_getElem (by omega), Option.bind_eq_some_iff] at h1
      obtain ⟨cs', hcs', hy⟩ := h1
      obtain ⟨_, hlen9, hcell⟩ := World.cells?_some hcs'
      obtain ⟨y, rfl, hyo⟩ := hel _ _ _ hlen9 hy
      refine ⟨y, hyo, fun k v hk => ?_⟩
      have hk9 : k < n + 1 := by
        have := (List.getElem?_eq_some_iff.1 hk).1
        rw [hen] at this; exact this
      rw [hcell k hk9]; exact hk
    obtain ⟨l, hll, hp⟩ := pick_list _ len each
    refine ⟨_, l, hcs, fun y hy => ?_, by omega, ?_⟩
    · obtain ⟨i, hi⟩ := List.getElem?_of_mem hy
      exact (hp i y hi).1
    · cases len with
      | zero =>
        have : l = [] := List.length_eq_zero_iff.1 hll
        subst this
        exact Rd.empty ⟨_, _, rfl, Nat.zero_le _, fun h => absurd h (by simp)⟩ _
      | succ q =>
        obtain ⟨b', off, spot⟩ := a'
        obtain ⟨y0, hy0, hc0⟩ := each 0 (by omega)
        obtain ⟨v0, hv0⟩ : ∃ v, (en y0)[0]? = some v := ⟨_, List.getElem?_eq_getElem (by rw [hen]; omega)⟩
        have h0 : W.cell? ⟨b', off, spot⟩ = some v0 := by simpa [Addr.add] using hc0 0 _ hv0
        have hs : spot = none := World.cell?_spot h0
        subst hs
        rw [hll]
        refine ⟨SlV.mk _ _ hl, fun _ => ⟨?_, by simp, fun k v hk => ?_⟩⟩
        · show b' < W.heap.size
          rcases Nat.lt_or_ge b' W.heap.size with h | h
          · exact h
          · unfold World.cell? at h0
            rw [Array.getElem?_eq_none h] at h0; simp at h0
        · obtain ⟨y, hy, hv⟩ := flat_cell (Nat.succ_pos n) hen hk
          have := (hp _ y hy).2 _ v hv
          rw [add_atF, add_atF] at this
          show W.cell? ⟨b', off + k, none⟩ = some v
          rw [show off + k = off + k / (n + 1) * (n + 1) + k % (n + 1) by rw [Nat.add_assoc, Nat.mul_comm, Nat.div_add_mod]]
          exact this
def U64 (n : Int) : Prop := 0 ≤ n ∧ n ≤ 18446744073709551615
theorem u64_of_wf {n : Int} (h : (Lit.int .u64 n).wf = true) : U64 n := by
  have hmin : IntKind.u64.min = 0 := rfl
  have hmax : IntKind.u64.max = 18446744073709551615 := rfl
  simp only [Lit.wf, Bool.and_eq_true, decide_eq_true_eq] at h; unfold U64; omega
structure Lop.Ok (o : Lop) : Prop where
  k : I64 o.k
  d : I64 o.d
  e : I64 o.e
  a : I64 o.a
  b : I64 o.b
  c : I64 o.c
  buf : I64 o.buf
  imm : U64 o.imm
structure Bf.Ok (b : Bf) : Prop where
  size : I64 b.size
  kind : I64 b.kind
theorem field_bool {H : Type} {enc : TypeId × Value → H} {P : Program} {W : World} {base : Nat} {sp : Nat → Bool} {held : Bool} {t ti : TypeId} {fs : Array Field} {cs : List Value} {fuel : Nat} {x : DataW H × List MemPlace}
    (ht : P.underlying t = some (.struct fs)) (hf : DataW.trod enc P W base sp held fuel t cs = some x) (i o : Nat) (hi : fs[i]?.map (fun f => (f.type, f.offset)) = some (ti, o)) (hti : P.underlying ti = some .bool) (hc : P.cellsOf ti = 1) :
    ∃ b, cs[o]? = some (.bool b) := by
  obtain ⟨m, y, hy⟩ := field_sub ht hf i o 1 hi hc
  obtain ⟨b, e, _⟩ := DataW.trod_bool hti hy
  refine ⟨b, ?_⟩
  have := congrArg (fun l => l[0]?) e
  simpa using this
theorem trod_op {H : Type} {enc : TypeId × Value → H} {W : World} {base : Nat} {sp : Nat → Bool} {held : Bool} {fuel : Nat} {cs : List Value} {x : DataW H × List MemPlace} (hl : cs.length = 8)
    (hf : DataW.trod enc Try.prog W base sp held fuel 39 cs = some x) : ∃ y : Lop, cs = encO y ∧ y.Ok := by
  have hc3 : Try.prog.cellsOf 3 = 1 := by kernel_rfl
  have hcu : Try.prog.cellsOf 37 = 1 := by kernel_rfl
  obtain ⟨a0, h0, w0⟩ := field_int Try.underlying39 hf 0 0 rfl Try.underlying3 hc3
  obtain ⟨a1, h1, w1⟩ := field_int Try.underlying39 hf 1 1 rfl Try.underlying3 hc3
  obtain ⟨a2, h2, w2⟩ := field_int Try.underlying39 hf 2 2 rfl Try.underlying3 hc3
  obtain ⟨a3, h3, w3⟩ := field_int Try.underlying39 hf 3 3 rfl Try.underlying3 hc3
  obtain ⟨a4, h4, w4⟩ := field_int Try.underlying39 hf 4 4 rfl Try.underlying3 hc3
  obtain ⟨a5, h5, w5⟩ := field_int Try.underlying39 hf 5 5 rfl Try.underlying3 hc3
  obtain ⟨a6, h6, w6⟩ := field_int Try.underlying39 hf 6 6 rfl Try.underlying3 hc3
  obtain ⟨a7, h7, w7⟩ := field_int Try.underlying39 hf 7 7 rfl Try.underlying37 hcu
  clear hf
  match cs, hl with
  | [c0, c1, c2, c3, c4, c5, c6, c7], _ =>
    simp at h0 h1 h2 h3 h4 h5 h6 h7
    subst h0 h1 h2 h3 h4 h5 h6 h7
    exact ⟨⟨a0, a1, a2, a3, a4, a5, a6, a7⟩, rfl, int_of_wf w0, int_of_wf w1, int_of_wf w2, int_of_wf w3, int_of_wf w4, int_of_wf w5, int_of_wf w6, u64_of_wf w7⟩
theorem trod_buf {H : Type} {enc : TypeId × Value → H} {W : World} {base : Nat} {sp : Nat → Bool} {held : Bool} {fuel : Nat} {cs : List Value} {x : DataW H × List MemPlace} (hl : cs.length = 3)
    (hf : DataW.trod enc Try.prog W base sp held fuel 33 cs = some x) : ∃ y : Bf, cs = encB y ∧ y.Ok := by
  have hc3 : Try.prog.cellsOf 3 = 1 := by kernel_rfl
  have hcb : Try.prog.cellsOf 4 = 1 := by kernel_rfl
  obtain ⟨a0, h0, w0⟩ := field_int Try.underlying33 hf 0 0 rfl Try.underlying3 hc3
  obtain ⟨a1, h1, w1⟩ := field_int Try.underlying33 hf 1 1 rfl Try.underlying3 hc3
  obtain ⟨a2, h2⟩ := field_bool Try.underlying33 hf 2 2 rfl Try.underlying4 hcb
  clear hf
  match cs, hl with
  | [c0, c1, c2], _ =>
    simp at h0 h1 h2
    subst h0 h1 h2
    exact ⟨⟨a0, a1, a2⟩, rfl, int_of_wf w0, int_of_wf w1⟩
set_option maxRecDepth 100000 in
theorem open_bufs {H : Type} {enc : TypeId × Value → H} {W : World} {base b : Nat} {sp : Nat → Bool} {held : Bool} {r : Reach} {v : Value} {d : DataW H} {ps : List MemPlace} (hok : Value.okWide Try.prog W r b 22 v)
    (h : DataW.Trod enc Try.prog W base sp held 22 v d ps) : ∃ bs : List Bf, (∀ b ∈ bs, b.Ok) ∧ bs.length ≤ maxLen ∧ Rd W [] v bs.length (bs.flatMap encB) := by
  obtain ⟨a, len, cap, rfl⟩ := okWide_slice Try.underlying22 hok
  obtain ⟨fuel, hf⟩ := h
  obtain ⟨v', l, hv, h1, h2, h3⟩ := open_rowsG Try.underlying22 (show Try.prog.cellsOf 33 = 2 + 1 by kernel_rfl) encB encB_len Bf.Ok (fun _ _ _ hl hf => trod_buf hl hf) hf
  have e : (.slice a len cap : Value) = v' := by simpa [Value.cells] using hv
  subst e
  exact ⟨l, h1, h2, h3⟩
set_option maxRecDepth 100000 in
theorem open_ops {H : Type} {enc : TypeId × Value → H} {W : World} {base b : Nat} {sp : Nat → Bool} {held : Bool} {r : Reach} {v : Value} {d : DataW H} {ps : List MemPlace} (hok : Value.okWide Try.prog W r b 23 v)
    (h : DataW.Trod enc Try.prog W base sp held 23 v d ps) : ∃ os : List Lop, (∀ o ∈ os, o.Ok) ∧ os.length ≤ maxLen ∧ Rd W [] v os.length (os.flatMap encO) := by
  obtain ⟨a, len, cap, rfl⟩ := okWide_slice Try.underlying23 hok
  obtain ⟨fuel, hf⟩ := h
  obtain ⟨v', l, hv, h1, h2, h3⟩ := open_rowsG Try.underlying23 (show Try.prog.cellsOf 39 = 7 + 1 by kernel_rfl) encO encO_len Lop.Ok (fun _ _ _ hl hf => trod_op hl hf) hf
  have e : (.slice a len cap : Value) = v' := by simpa [Value.cells] using hv
  subst e
  exact ⟨l, h1, h2, h3⟩
/-- What an argument of a limb program is. -/
structure Prog (W : World) (v : Value) (regs : Int) (vb vo : Value) (bs : List Bf) (os : List Lop) : Prop where
  eq : v = progV regs vb vo
  regs : I64 regs
  bok : ∀ b ∈ bs, b.Ok
  ook : ∀ o ∈ os, o.Ok
  bl : bs.length ≤ maxLen
  ol : os.length ≤ maxLen
  rb : Rd W [] vb bs.length (bs.flatMap encB)
  ro : Rd W [] vo os.length (os.flatMap encO)
set_option maxRecDepth 100000 in
theorem open_prog {H : Type} {enc : TypeId × Value → H} {W : World} {base b : Nat} {sp : Nat → Bool} {held : Bool} {r : Reach} {v : Value} {d : DataW H} {ps : List MemPlace} (hok : Value.okWide Try.prog W r b 25 v)
    (h : DataW.Trod enc Try.prog W base sp held 25 v d ps) : ∃ regs vb vo bs os, Prog W v regs vb vo bs os := by
  obtain ⟨cs, rfl, hsz⟩ := okWide_struct Try.underlying25 hok
  obtain ⟨fuel, hf⟩ := h
  have hc3 : Try.prog.cellsOf 3 = 1 := by kernel_rfl
  have hcb : Try.prog.cellsOf 22 = 1 := by kernel_rfl
  have hco : Try.prog.cellsOf 23 = 1 := by kernel_rfl
  have hcp : Try.prog.cellsOf 25 = 3 := by kernel_rfl
  rw [hcp] at hsz
  have hf' : DataW.trod enc Try.prog W base sp held fuel 25 cs.toList = some (d, ps) := by simpa [Value.cells] using hf
  obtain ⟨a0, h0, w0⟩ := field_int Try.underlying25 hf' 0 0 rfl Try.underlying3 hc3
  obtain ⟨m1, y1, hy1⟩ := field_sub Try.underlying25 hf' 1 1 1 rfl hcb
  obtain ⟨m2, y2, hy2⟩ := field_sub Try.underlying25 hf' 2 2 1 rfl hco
  obtain ⟨vb, bs, hvb, hb1, hb2, hb3⟩ := open_rowsG Try.underlying22 (show Try.prog.cellsOf 33 = 2 + 1 by kernel_rfl) encB encB_len Bf.Ok (fun _ _ _ hl hf => trod_buf hl hf) hy1
  obtain ⟨vo, os, hvo, ho1, ho2, ho3⟩ := open_rowsG Try.underlying23 (show Try.prog.cellsOf 39 = 7 + 1 by kernel_rfl) encO encO_len Lop.Ok (fun _ _ _ hl hf => trod_op hl hf) hy2
  have hl : cs.toList.length = 3 := by simpa using hsz
  obtain ⟨l, hcl⟩ : ∃ l, l = cs.toList := ⟨_, rfl⟩
  rw [← hcl] at h0 hvb hvo hl
  match l, hl with
  | [c0, c1, c2], _ =>
    simp at h0 hvb hvo
    subst h0 hvb hvo
    refine ⟨a0, c1, c2, bs, os, ?_, int_of_wf w0, hb1, ho1, hb2, ho2, hb3, ho3⟩
    have : cs = [.int .i64 a0, c1, c2].toArray := by rw [hcl]
    rw [this]; rfl
end Go.Proofs.Ytkjlgapkcdcmgaa
