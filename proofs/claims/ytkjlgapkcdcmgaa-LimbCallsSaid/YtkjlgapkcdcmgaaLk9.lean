/- slices.IndexFunc, ContainsFunc, Index, Contains. -/
import Derived.Test.YtkjlgapkcdcmgaaLk8
set_option linter.unusedVariables false
set_option linter.unusedSimpArgs false
namespace Go.Proofs.Ytkjlgapkcdcmgaa
open Go Go.RowKit SL
attribute [local irreducible] SL.L SL.C SL.D SL.N SL.H SL.QL SL.QW SL.QP

def idxI {α : Type} (p : α → Bool) (xs : List α) : Int := match xs.findIdx? p with | some i => (i : Int) | none => -1
theorem idxI_at {α : Type} {p : α → Bool} {xs : List α} {i : Nat} {x : α} (hx : xs[i]? = some x) (hp : p x = true) (h : (xs.take i).any p = false) : idxI p xs = i := by
  have hi : i < xs.length := (List.getElem?_eq_some_iff.1 hx).1
  have : xs.findIdx? p = some i := by
    rw [List.findIdx?_eq_some_iff_getElem]
    refine ⟨hi, ?_, fun j hj => ?_⟩
    · have := (List.getElem?_eq_some_iff.1 hx).2; rw [this]; exact hp
    · have := List.any_eq_false.1 h (xs[j]) (by rw [List.mem_take_iff_getElem]; exact ⟨j, by omega, rfl⟩)
      simpa using this
  unfold idxI; rw [this]
theorem idxI_no {α : Type} {p : α → Bool} {xs : List α} (h : xs.any p = false) : idxI p xs = -1 := by
  have : xs.findIdx? p = none := by
    rw [List.findIdx?_eq_none_iff]
    intro x hx
    have := List.any_eq_false.1 h x hx
    simpa using this
  unfold idxI; rw [this]
theorem idxI_any {α : Type} (p : α → Bool) (xs : List α) : cm .geq (idxI p xs) 0 = xs.any p := by
  unfold idxI
  cases hf : xs.findIdx? p with
  | none =>
    rw [List.findIdx?_eq_none_iff] at hf
    have : xs.any p = false := by rw [List.any_eq_false]; intro x hx; simp [hf x hx]
    rw [this]; rfl
  | some i =>
    rw [List.findIdx?_eq_some_iff_getElem] at hf
    obtain ⟨hi, hp, _⟩ := hf
    rw [any_at (List.getElem?_eq_getElem hi) hp]
    show cm .geq (i : Int) 0 = true
    exact cm_ge (by omega)

set_option maxHeartbeats 1000000 in
theorem indexB_S (f : Nat) [Fun Try.prog f] (cs : List Value) (p : Bf → Bool) (v : Value) (xs : List Bf) (K : World → Prop) (hK : ∀ w w', K w → At w [] [] w' → K w') (spec : ∀ x ∈ xs, Ctr Try.prog f ([.agg (encB x).toArray] ++ cs) [] K (is (.bool (p x)) [])) (hb : xs.length ≤ 1000000) :
    Ctr Try.prog 105 [v, .func (.func f) #[] cs.toArray] [] (fun w => Rd w [] v xs.length (xs.flatMap encB) ∧ K w) (is (.int .i64 (idxI p xs)) []) := by
  refine Ctr.enter Try.func105 Try.ntmps105 rfl rfl (fun w hr => ?_)
  have s1 := hr.1.1
  repeat (first | refine C.seq ?_ | refine C.region ?_ | refine L.nil ?_ | refine D.seq ?_ | refine L.move (k := ?_) | refine L.assign (k := ?_) | refine C.block ?_ | refine L.lenR s1 (c := ?_))
  refine C.loop (α := Nat) (fun i => i ≤ xs.length ∧ (xs.take i).any p = false) (fun i => [(0, v), (1, .func (.func f) #[] cs.toArray), (7, .int .i64 xs.length), (8, .int .i64 i)]) (fun _ => []) (fun i => xs.length - i) 0
    (fun a w hs => hs.lessE rfl (lk_cons rfl (lk_cons rfl (lk_cons rfl (lk_cons rfl (fun _ _ h => lk_nil h)))))) ⟨Nat.zero_le _, rfl⟩ ?_
  rintro i ⟨hi, ht⟩
  rcases Nat.lt_or_ge i xs.length with hlt | hge
  · have c1 : cm .lss (i : Int) xs.length = true := cm_lo (by omega)
    obtain ⟨x, hx⟩ : ∃ x, xs[i]? = some x := ⟨_, List.getElem?_eq_getElem hlt⟩
    have o1 := hr.1.2 (by omega)
    have c2 : ar .add .i64 (i : Int) 1 = ((i + 1 : Nat) : Int) := wrap_nat (by omega)
    have sp := spec x (List.mem_of_getElem? hx)
    repeat' (first | refine C.seq ?_ | refine C.region ?_ | refine L.nil ?_ | refine D.seq ?_ | refine L.move (k := ?_) | refine L.assign (k := ?_) | refine L.cm (c := ?_) | refine C.yes (h1 := ?_) | refine C.block ?_ | refine C.skip ?_ | refine L.lenR s1 (c := ?_) | refine L.indexR s1 hlt (c := ?_) | refine L.loadOA o1 (i := i * 3) (ho := rfl) (hi := (flat_at encB_len hx).2) (hcs := (flat_at encB_len hx).1) (c := ?_) | refine L.call (fs := []) (cs := cs) (A := []) (f := f) [] (by exact rfl) (by exact rfl) (by exact rfl) (by exact rfl) (by exact List.nodup_nil) sp (fun w1 hw1 => hK _ _ hr.2 hw1) (fun v' B hvB => ?_))
    obtain ⟨rfl, rfl⟩ := hvB
    cases hp : p x with
    | true =>
      repeat' (first | refine C.seq ?_ | refine C.region ?_ | refine L.nil ?_ | refine D.seq ?_ | refine L.move (k := ?_) | refine L.assign (k := ?_) | refine C.yes (h1 := ?_) | refine C.ret ?_ | refine D.thenRet ?_ | refine D.blkRet ?_)
      rw [idxI_at hx hp ht]
      (refine D.ret (vs := [_]) (RV.tmp rfl RV.nil) ?_; intro w' hw; exact Post.mkD 0 hw rfl ⟨rfl, rfl⟩)
    | false =>
      repeat' (first | refine C.region ?_ | refine L.nil ?_ | refine D.seq ?_ | refine L.move (k := ?_) | refine L.ar (c := ?_) | refine C.no (h1 := ?_) | refine D.blkNormal ?_ | refine C.skip ?_)
      refine D.then_ fun a1 w1 hs => ⟨i + 1, ⟨by omega, ?_⟩, by omega, hs.lessE rfl (lk_cons rfl (lk_cons rfl (lk_cons rfl (lk_cons rfl (fun _ _ h => lk_nil h)))))⟩
      rw [take_any hx, ht, Bool.false_or]; exact hp
  · have c1 : cm .lss (i : Int) xs.length = false := cm_lo' (by omega)
    repeat (first | refine C.seq ?_ | refine C.region ?_ | refine L.nil ?_ | refine D.seq ?_ | refine L.assign (k := ?_) | refine L.cm (c := ?_) | refine C.no (h1 := ?_) | refine C.ret ?_ | refine C.exit ?_ | refine D.thenExit ?_ | refine D.blkExit ?_)
    rw [List.take_of_length_le hge] at ht
    rw [idxI_no ht]
    (refine D.ret (vs := [_]) (RV.tmp rfl RV.nil) ?_; intro w' hw; exact Post.mkD 0 hw rfl ⟨rfl, rfl⟩)
set_option maxHeartbeats 1000000 in
theorem containsB_S (f : Nat) [Fun Try.prog f] (cs : List Value) (p : Bf → Bool) (v : Value) (xs : List Bf) (K : World → Prop) (hK : ∀ w w', K w → At w [] [] w' → K w') (spec : ∀ x ∈ xs, Ctr Try.prog f ([.agg (encB x).toArray] ++ cs) [] K (is (.bool (p x)) [])) (hb : xs.length ≤ 1000000) :
    Ctr Try.prog 90 [v, .func (.func f) #[] cs.toArray] [] (fun w => Rd w [] v xs.length (xs.flatMap encB) ∧ K w) (is (.bool (xs.any p)) []) := by
  refine Ctr.enter Try.func90 Try.ntmps90 rfl rfl (fun w hr => ?_)
  rw [← idxI_any]
  repeat (first | refine C.seq ?_ | refine C.region ?_ | refine L.nil ?_ | refine D.seq ?_ | refine L.move (k := ?_) | refine L.assign (k := ?_) | refine L.cm (c := ?_) | refine C.ret ?_ | refine L.callQ (indexB_S f cs p v xs K hK spec hb) (hpre := fun w1 hw1 => ⟨hr.1.at hw1, hK _ _ hr.2 hw1⟩) (k := ?_))
  (refine D.ret (vs := [_]) (RV.tmp rfl RV.nil) ?_; intro w' hw; exact Post.mkD 0 hw rfl ⟨rfl, rfl⟩)

set_option maxHeartbeats 1000000 in
theorem indexI_S (f : Nat) [Fun Try.prog f] (cs : List Value) (p : Int → Bool) (v : Value) (xs : List Int) (K : World → Prop) (hK : ∀ w w', K w → At w [] [] w' → K w') (spec : ∀ x ∈ xs, Ctr Try.prog f ([.int .i64 x] ++ cs) [] K (is (.bool (p x)) [])) (hb : xs.length ≤ 1000000) :
    Ctr Try.prog 114 [v, .func (.func f) #[] cs.toArray] [] (fun w => Rd w [] v xs.length (xs.map int) ∧ K w) (is (.int .i64 (idxI p xs)) []) := by
  refine Ctr.enter Try.func114 Try.ntmps114 rfl rfl (fun w hr => ?_)
  have s1 := hr.1.1
  repeat (first | refine C.seq ?_ | refine C.region ?_ | refine L.nil ?_ | refine D.seq ?_ | refine L.move (k := ?_) | refine L.assign (k := ?_) | refine C.block ?_ | refine L.lenR s1 (c := ?_))
  refine C.loop (α := Nat) (fun i => i ≤ xs.length ∧ (xs.take i).any p = false) (fun i => [(0, v), (1, .func (.func f) #[] cs.toArray), (7, .int .i64 xs.length), (8, .int .i64 i)]) (fun _ => []) (fun i => xs.length - i) 0
    (fun a w hs => hs.lessE rfl (lk_cons rfl (lk_cons rfl (lk_cons rfl (lk_cons rfl (fun _ _ h => lk_nil h)))))) ⟨Nat.zero_le _, rfl⟩ ?_
  rintro i ⟨hi, ht⟩
  rcases Nat.lt_or_ge i xs.length with hlt | hge
  · have c1 : cm .lss (i : Int) xs.length = true := cm_lo (by omega)
    obtain ⟨x, hx⟩ : ∃ x, xs[i]? = some x := ⟨_, List.getElem?_eq_getElem hlt⟩
    have o1 := hr.1.2 (by omega)
    have c2 : ar .add .i64 (i : Int) 1 = ((i + 1 : Nat) : Int) := wrap_nat (by omega)
    have sp := spec x (List.mem_of_getElem? hx)
    repeat' (first | refine C.seq ?_ | refine C.region ?_ | refine L.nil ?_ | refine D.seq ?_ | refine L.move (k := ?_) | refine L.assign (k := ?_) | refine L.cm (c := ?_) | refine C.yes (h1 := ?_) | refine C.block ?_ | refine C.skip ?_ | refine L.lenR s1 (c := ?_) | refine L.indexR s1 hlt (c := ?_) | refine L.loadF o1 (int_at hx) (c := ?_) | refine L.call (fs := []) (cs := cs) (A := []) (f := f) [] (by exact rfl) (by exact rfl) (by exact rfl) (by exact rfl) (by exact List.nodup_nil) sp (fun w1 hw1 => hK _ _ hr.2 hw1) (fun v' B hvB => ?_))
    obtain ⟨rfl, rfl⟩ := hvB
    cases hp : p x with
    | true =>
      repeat' (first | refine C.seq ?_ | refine C.region ?_ | refine L.nil ?_ | refine D.seq ?_ | refine L.move (k := ?_) | refine L.assign (k := ?_) | refine C.yes (h1 := ?_) | refine C.ret ?_ | refine D.thenRet ?_ | refine D.blkRet ?_)
      rw [idxI_at hx hp ht]
      (refine D.ret (vs := [_]) (RV.tmp rfl RV.nil) ?_; intro w' hw; exact Post.mkD 0 hw rfl ⟨rfl, rfl⟩)
    | false =>
      repeat' (first | refine C.region ?_ | refine L.nil ?_ | refine D.seq ?_ | refine L.move (k := ?_) | refine L.ar (c := ?_) | refine C.no (h1 := ?_) | refine D.blkNormal ?_ | refine C.skip ?_)
      refine D.then_ fun a1 w1 hs => ⟨i + 1, ⟨by omega, ?_⟩, by omega, hs.lessE rfl (lk_cons rfl (lk_cons rfl (lk_cons rfl (lk_cons rfl (fun _ _ h => lk_nil h)))))⟩
      rw [take_any hx, ht, Bool.false_or]; exact hp
  · have c1 : cm .lss (i : Int) xs.length = false := cm_lo' (by omega)
    repeat (first | refine C.seq ?_ | refine C.region ?_ | refine L.nil ?_ | refine D.seq ?_ | refine L.assign (k := ?_) | refine L.cm (c := ?_) | refine C.no (h1 := ?_) | refine C.ret ?_ | refine C.exit ?_ | refine D.thenExit ?_ | refine D.blkExit ?_)
    rw [List.take_of_length_le hge] at ht
    rw [idxI_no ht]
    (refine D.ret (vs := [_]) (RV.tmp rfl RV.nil) ?_; intro w' hw; exact Post.mkD 0 hw rfl ⟨rfl, rfl⟩)
set_option maxHeartbeats 1000000 in
theorem containsI_S (f : Nat) [Fun Try.prog f] (cs : List Value) (p : Int → Bool) (v : Value) (xs : List Int) (K : World → Prop) (hK : ∀ w w', K w → At w [] [] w' → K w') (spec : ∀ x ∈ xs, Ctr Try.prog f ([.int .i64 x] ++ cs) [] K (is (.bool (p x)) [])) (hb : xs.length ≤ 1000000) :
    Ctr Try.prog 109 [v, .func (.func f) #[] cs.toArray] [] (fun w => Rd w [] v xs.length (xs.map int) ∧ K w) (is (.bool (xs.any p)) []) := by
  refine Ctr.enter Try.func109 Try.ntmps109 rfl rfl (fun w hr => ?_)
  rw [← idxI_any]
  repeat (first | refine C.seq ?_ | refine C.region ?_ | refine L.nil ?_ | refine D.seq ?_ | refine L.move (k := ?_) | refine L.assign (k := ?_) | refine L.cm (c := ?_) | refine C.ret ?_ | refine L.callQ (indexI_S f cs p v xs K hK spec hb) (hpre := fun w1 hw1 => ⟨hr.1.at hw1, hK _ _ hr.2 hw1⟩) (k := ?_))
  (refine D.ret (vs := [_]) (RV.tmp rfl RV.nil) ?_; intro w' hw; exact Post.mkD 0 hw rfl ⟨rfl, rfl⟩)

set_option maxHeartbeats 1000000 in
theorem index_S (v : Value) (xs : List Int) (n : Int) (hb : xs.length ≤ 1000000) :
    Ctr Try.prog 113 [v, .int .i64 n] [] (fun w => Rd w [] v xs.length (xs.map int)) (is (.int .i64 (idxI (fun x => cm .eql n x) xs)) []) := by
  refine Ctr.enter Try.func113 Try.ntmps113 rfl rfl (fun w hr => ?_)
  have s1 := hr.1
  repeat (first | refine C.seq ?_ | refine C.region ?_ | refine L.nil ?_ | refine D.seq ?_ | refine L.move (k := ?_) | refine L.assign (k := ?_) | refine C.block ?_ | refine L.lenR s1 (c := ?_))
  refine C.loop (α := Nat) (fun i => i ≤ xs.length ∧ (xs.take i).any (fun x => cm .eql n x) = false) (fun i => [(0, v), (1, .int .i64 n), (7, .int .i64 xs.length), (8, .int .i64 i)]) (fun _ => []) (fun i => xs.length - i) 0
    (fun a w hs => hs.lessE rfl (lk_cons rfl (lk_cons rfl (lk_cons rfl (lk_cons rfl (fun _ _ h => lk_nil h)))))) ⟨Nat.zero_le _, rfl⟩ ?_
  rintro i ⟨hi, ht⟩
  rcases Nat.lt_or_ge i xs.length with hlt | hge
  · have c1 : cm .lss (i : Int) xs.length = true := cm_lo (by omega)
    obtain ⟨x, hx⟩ : ∃ x, xs[i]? = some x := ⟨_, List.getElem?_eq_getElem hlt⟩
    have o1 := hr.2 (by omega)
    have c2 : ar .add .i64 (i : Int) 1 = ((i + 1 : Nat) : Int) := wrap_nat (by omega)
    cases hp : cm .eql n x with
    | true =>
      repeat' (first | refine C.seq ?_ | refine C.region ?_ | refine L.nil ?_ | refine D.seq ?_ | refine L.move (k := ?_) | refine L.assign (k := ?_) | refine L.cm (c := ?_) | refine C.yes (h1 := ?_) | refine C.block ?_ | refine C.ret ?_ | refine D.thenRet ?_ | refine D.blkRet ?_ | refine C.skip ?_ | refine L.lenR s1 (c := ?_) | refine L.indexR s1 hlt (c := ?_) | refine L.loadF o1 (int_at hx) (c := ?_))
      rw [idxI_at (p := fun x => cm .eql n x) hx hp ht]
      (refine D.ret (vs := [_]) (RV.tmp rfl RV.nil) ?_; intro w' hw; exact Post.mkD 0 hw rfl ⟨rfl, rfl⟩)
    | false =>
      repeat' (first | refine C.seq ?_ | refine C.region ?_ | refine L.nil ?_ | refine D.seq ?_ | refine L.move (k := ?_) | refine L.assign (k := ?_) | refine L.cm (c := ?_) | refine L.ar (c := ?_) | refine C.yes (h1 := ?_) | refine C.no (h1 := ?_) | refine C.block ?_ | refine D.blkNormal ?_ | refine C.skip ?_ | refine L.lenR s1 (c := ?_) | refine L.indexR s1 hlt (c := ?_) | refine L.loadF o1 (int_at hx) (c := ?_))
      refine D.then_ fun a1 w1 hs => ⟨i + 1, ⟨by omega, ?_⟩, by omega, hs.lessE rfl (lk_cons rfl (lk_cons rfl (lk_cons rfl (lk_cons rfl (fun _ _ h => lk_nil h)))))⟩
      rw [take_any hx, ht, Bool.false_or]; exact hp
  · have c1 : cm .lss (i : Int) xs.length = false := cm_lo' (by omega)
    repeat (first | refine C.seq ?_ | refine C.region ?_ | refine L.nil ?_ | refine D.seq ?_ | refine L.assign (k := ?_) | refine L.cm (c := ?_) | refine C.no (h1 := ?_) | refine C.ret ?_ | refine C.exit ?_ | refine D.thenExit ?_ | refine D.blkExit ?_)
    rw [List.take_of_length_le hge] at ht
    rw [idxI_no ht]
    (refine D.ret (vs := [_]) (RV.tmp rfl RV.nil) ?_; intro w' hw; exact Post.mkD 0 hw rfl ⟨rfl, rfl⟩)
theorem any_contains (xs : List Int) (n : Int) : xs.any (fun x => cm .eql n x) = xs.contains n := by
  rw [Bool.eq_iff_iff, List.any_eq_true, List.contains_iff_mem]
  constructor
  · rintro ⟨x, hx, h⟩
    have : n = x := by simpa [cm] using h
    rwa [this]
  · exact fun h => ⟨n, h, cm_yes rfl⟩
set_option maxHeartbeats 1000000 in
theorem contains_S (v : Value) (xs : List Int) (n : Int) (hb : xs.length ≤ 1000000) :
    Ctr Try.prog 108 [v, .int .i64 n] [] (fun w => Rd w [] v xs.length (xs.map int)) (is (.bool (xs.contains n)) []) := by
  refine Ctr.enter Try.func108 Try.ntmps108 rfl rfl (fun w hr => ?_)
  rw [← any_contains, ← idxI_any]
  repeat (first | refine C.seq ?_ | refine C.region ?_ | refine L.nil ?_ | refine D.seq ?_ | refine L.move (k := ?_) | refine L.assign (k := ?_) | refine L.cm (c := ?_) | refine C.ret ?_ | refine L.callQ (index_S v xs n hb) (hpre := fun w1 hw1 => hr.at hw1) (k := ?_))
  (refine D.ret (vs := [_]) (RV.tmp rfl RV.nil) ?_; intro w' hw; exact Post.mkD 0 hw rfl ⟨rfl, rfl⟩)
end Go.Proofs.Ytkjlgapkcdcmgaa
