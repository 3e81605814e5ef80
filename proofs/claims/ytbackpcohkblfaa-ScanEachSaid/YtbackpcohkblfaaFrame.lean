/- The frame of a law that returns true and turns nothing that was there: its arguments read as before. An instruction as an argument, opened. -/
import Derived.Test.YtbackpcohkblfaaRows
import Derived.WalkKit
import Derived.ProofKit
import Derived.OpenShut
import Derived.Carry
namespace Go.Proofs.Ytbackpcohkblfaa
open Go.ChangeShapes Go.WideShapes Go.ChangeAt Go.RowKit

theorem trodAll_below {H : Type} {enc : TypeId × Value → H} {P : Program} (hl : laidOutB P = true) {W W' : World} (hb : Below W.heap.size W W') :
    ∀ (ts : List TypeId) (vs : List Value) (ds : List (DataW H)) (ps : List MemPlace), (∀ t ∈ ts, P.readableRec t = true ∧ t < P.types.size) → DataW.TrodAll enc P W 0 (fun _ => true) true ts vs ds ps →
      (∀ x ∈ ps, x.block < W.heap.size) → DataW.TrodAll enc P W' 0 (fun b => decide (b < W.heap.size)) true ts vs ds ps
  | [], vs, ds, ps, _, h, _ => by
    cases vs <;> cases ds <;> simp [DataW.TrodAll] at h ⊢
    exact h
  | t :: ts, vs, ds, ps, ht, h, hlt => by
    obtain ⟨v, vs', d, ds', p, q, rfl, rfl, rfl, h0, h1⟩ := trodAll_cons h
    have ht0 := ht t List.mem_cons_self
    exact trodAll_cons_mk (Below.trod hl ht0.1 ht0.2 h0 hb (fun x hx => hlt x (List.mem_append.2 (.inl hx))))
      (trodAll_below hl hb ts vs' ds' q (fun t' h' => ht t' (List.mem_cons_of_mem _ h')) h1 (fun x hx => hlt x (List.mem_append.2 (.inr hx))))

theorem post_true {H : Type} {enc : TypeId × Value → H} {P : Program} {f : Func} {s : ChangeSpec} {fresh : Bool} {W W' : World} {args : Array Value} {ds gs : List (DataW H)} {before : List MemPlace} {tb : TypeId}
    (hl : laidOutB P = true) (hts : ∀ t ∈ f.params.toList, P.readableRec t = true ∧ t < P.types.size) (hres : f.resultTypes = #[tb]) (hbool : P.underlying tb = some .bool) (hvars : s.vars = [])
    (hW : DataW.Whole enc P f.params.toList s.vars false W args.toList ds gs before) (hfn : (s.fn H (ds ++ gs)).results = [.lit (.bool true)] ∧ (s.fn H (ds ++ gs)).args = ds ∧ (s.fn H (ds ++ gs)).vars = []) (hb : Below W.heap.size W W') :
    s.post enc P f false fresh false false W args (.bool true) W' := by
  have hW' := hW
  obtain ⟨p, q, hA, hV, rfl, hfz, hnd⟩ := hW
  have hlt : ∀ x ∈ p ++ q, x.block < W.heap.size := fun x hx => hW'.lt x hx
  rw [hvars] at hV
  obtain ⟨rfl, rfl⟩ := trodVars_none hV
  refine ⟨ds, [], p ++ [], [], p, [], hW', ?_, ?_, ?_, hb.frame _, fun h => by cases h⟩
  · rw [hfn.1, hres]
    exact trodAll_cons_mk (p := []) (p' := []) (shut_bool hbool _) trodAll_mk0
  · rw [hfn.2.1]
    exact trodAll_below hl hb _ _ _ _ hts hA (fun x hx => hlt x (List.mem_append.2 (.inl hx)))
  · rw [hfn.2.2, hvars]; rfl

theorem int_of_wf {n : Int} (h : (Lit.int .i64 n).wf = true) : -9223372036854775808 ≤ n ∧ n ≤ 9223372036854775807 := by
  have hmin : IntKind.i64.min = -9223372036854775808 := rfl
  have hmax : IntKind.i64.max = 9223372036854775807 := rfl
  simp only [Lit.wf, Bool.and_eq_true, decide_eq_true_eq] at h; omega
def I64 (n : Int) : Prop := -9223372036854775808 ≤ n ∧ n ≤ 9223372036854775807
def instV (op d s t mb mi ms md imm : Int) : Value := .agg #[.int .i64 op, .int .i64 d, .int .i64 s, .int .i64 t, .int .i64 mb, .int .i64 mi, .int .i64 ms, .int .i64 md, .int .i64 imm]
theorem field_sub {H : Type} {enc : TypeId × Value → H} {P : Program} {W : World} {base : Nat} {sp : Nat → Bool} {held : Bool} {t ti : TypeId} {fs : Array Field} {cs : List Value} {fuel : Nat} {x : DataW H × List MemPlace}
    (ht : P.underlying t = some (.struct fs)) (hf : DataW.trod enc P W base sp held fuel t cs = some x) (i o c : Nat) (hi : fs[i]?.map (fun f => (f.type, f.offset)) = some (ti, o)) (hc : P.cellsOf ti = c) :
    ∃ n y, DataW.trod enc P W base sp held n ti ((cs.drop o).take c) = some y := by
  obtain ⟨xs, n, _, _, _, hl, hfs⟩ := DataW.trod_struct ht hf
  cases hfi : fs[i]? with
  | none => rw [hfi] at hi; simp at hi
  | some f =>
    rw [hfi] at hi
    simp only [Option.map_some, Option.some.injEq, Prod.mk.injEq] at hi
    obtain ⟨rfl, rfl⟩ := hi
    have h := hfs i f hfi
    rw [hc] at h
    have hlt : i < fs.size := by
      rcases Nat.lt_or_ge i fs.size with h | h
      · exact h
      · rw [Array.getElem?_eq_none h] at hfi; simp at hfi
    rw [List.getElem?_eq_getElem (by omega)] at h
    exact ⟨n, _, h⟩
theorem field_int {H : Type} {enc : TypeId × Value → H} {P : Program} {W : World} {base : Nat} {sp : Nat → Bool} {held : Bool} {t ti : TypeId} {fs : Array Field} {cs : List Value} {fuel : Nat} {x : DataW H × List MemPlace} {k : IntKind}
    (ht : P.underlying t = some (.struct fs)) (hf : DataW.trod enc P W base sp held fuel t cs = some x) (i o : Nat) (hi : fs[i]?.map (fun f => (f.type, f.offset)) = some (ti, o)) (hti : P.underlying ti = some (.int k)) (hc : P.cellsOf ti = 1) :
    ∃ n, cs[o]? = some (.int k n) ∧ (Lit.int k n).wf = true := by
  obtain ⟨m, y, hy⟩ := field_sub ht hf i o 1 hi hc
  obtain ⟨n, e, _, hw⟩ := DataW.trod_int hti hy
  refine ⟨n, ?_, hw⟩
  have := congrArg (fun l => l[0]?) e
  simpa using this
end Go.Proofs.Ytbackpcohkblfaa
