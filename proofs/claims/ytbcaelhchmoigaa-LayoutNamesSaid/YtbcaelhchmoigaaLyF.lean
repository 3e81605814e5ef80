/- keysmithlaw10's lives; Own of lines; lines whose labels are moved, in place. Conditions: numbers are numbers of 64 bits. -/
import Derived.Test.YtbcaelhchmoigaaLyE
import Derived.Test.YtbcaelhchmoigaaSepGZ
set_option linter.unusedVariables false
set_option linter.unusedSimpArgs false
namespace Go.Proofs.Ytbcaelhchmoigaa.Ly
open Go Go.RowKit Calm SL
attribute [local irreducible] SL.L SL.C SL.D SL.N SL.H SL.QL SL.QW SL.QP

theorem ones_vs (l : List Ln) : ones (l.flatMap Ln.vs) := by
  intro u hu
  obtain ⟨x, _, hx⟩ := List.mem_flatMap.1 hu
  simp only [Ln.vs, List.mem_cons, List.not_mem_nil, or_false] at hx
  rcases hx with rfl | rfl | rfl | rfl | rfl | rfl | rfl | rfl | rfl | rfl | rfl <;> rfl
set_option maxHeartbeats 1000000 in
theorem ownL_S (v : Value) (n : Nat) (cs : List Value) (hn : cs.length = n * 11) (h1 : ones cs) (hb : n ≤ 1000000) : Ctr Try.prog 16 [v] [] (fun w => Rd w [] v n cs)
    (fun u B => ∃ y, osG 11 n cs y ∧ u = shut [osV n y] ∧ B = osC 37 y []) := by
  have f1 : 0 + n ≤ maxLen := by unfold maxLen; omega
  refine Ctr.enter Try.func16 Try.ntmps16 rfl rfl (fun w hr => ?_)
  repeat (first | refine C.seq ?_ | refine C.region ?_ | refine L.nil ?_ | refine D.seq ?_ | refine L.assign (k := ?_))
  refine L.build0 (c := ?_)
  intro y0 hG0
  repeat (first | refine L.move (k := ?_))
  refine L.appendU [] hG0 (by exact rfl) (fun w hw => hr.at hw) hn h1 f1 (by omega) (c := ?_)
  intro y hG _
  rw [List.nil_append] at hG
  rw [List.nil_append]
  repeat (first | refine L.nil ?_ | refine D.seq ?_ | refine L.assign (k := ?_) | refine C.ret ?_)
  refine D.ret (vs := [osV (0 + n) y]) (RV.tmp rfl RV.nil) ?_
  intro w' hw
  rw [Nat.zero_add] at hG ⊢
  exact Post.mkD 0 hw rfl ⟨y, hG, rfl, rfl⟩
def two : List Ln := [⟨1, ⟨0, 0, 0, 0, 0, 0, 0, 0, 0⟩, 0⟩, ⟨0, ⟨30, 0, 0, 0, 0, 0, 0, 0, 0⟩, 1⟩]
theorem two_bytes : lbytes two = (⟨#[233, 251, 255, 255, 255]⟩, 0) := by kernel_rfl
set_option maxRecDepth 100000 in
set_option maxHeartbeats 2000000 in
theorem lives_S : Ctr Try.prog 9 [] [] tt (is (.bool true) []) := by
  have hB := fun v => lbytes_S two (by decide) (by unfold two; intro x hx; simp only [List.mem_cons, List.not_mem_nil, or_false] at hx; rcases hx with rfl | rfl <;> exact ⟨by decide, by unfold Ins.ok; decide, by decide⟩) v
  rw [two_bytes] at hB
  refine Ctr.enter Try.func9 Try.ntmps9 rfl rfl (fun w _ => ?_)
  repeat (first | refine C.seq ?_ | refine C.region ?_ | refine L.nil ?_ | refine D.seq ?_ | refine L.move (k := ?_) | refine L.assign (k := ?_) | refine L.cm (c := ?_) | refine L.extract (c := ?_) | refine L.build (c := ?_) | refine L.pickT (k := ?_) | refine L.want (k := ?_) | refine L.strEq (c := ?_) | refine C.ret ?_ | refine L.buildS (c := fun _ => ?_) | refine L.callQ (hB _) (hpre := fun w hw => Rd.own (hw.holds _ List.mem_cons_self) (by simp) (by decide) 22 rfl) (k := ?_))
  (refine D.ret (vs := [_]) (RV.tmp rfl RV.nil) ?_; intro w' hw; exact Post.mk (is := []) hw List.nodup_nil rfl ⟨by kernel_rfl, rfl⟩)
/-- Lines, the first ones with their labels moved. -/
def ms (b : Int) (l : List Ln) (i : Nat) : List Ln := (l.take i).map (Ln.sh b) ++ l.drop i
theorem ms_at {b : Int} {l : List Ln} {i : Nat} {x : Ln} (h : l[i]? = some x) : (ms b l i)[i]? = some x := by
  obtain ⟨h1, h2⟩ := List.getElem?_eq_some_iff.1 h
  unfold ms
  rw [List.getElem?_append_right (by simp; omega), List.length_map, List.length_take, Nat.min_eq_left (by omega), Nat.sub_self, List.getElem?_drop, Nat.add_zero, h]
theorem ms_next {b : Int} {l : List Ln} {i : Nat} {x : Ln} (h : l[i]? = some x) : (ms b l i).set i (x.sh b) = ms b l (i + 1) := by
  obtain ⟨h1, h2⟩ := List.getElem?_eq_some_iff.1 h
  unfold ms
  rw [take_succ_eq h, drop_eq h, List.map_append, List.append_assoc, List.set_append_right _ _ (by simp; omega), List.length_map, List.length_take, Nat.min_eq_left (by omega), Nat.sub_self]
  rfl
theorem flat_set {α : Type} {n j : Nat} {v : Value} {enc : α → List Value} (he : ∀ x, (enc x).length = n) (hj : j < n) : ∀ (xs : List α) (i : Nat) (x x' : α), xs[i]? = some x → enc x' = (enc x).set j v → (xs.flatMap enc).set (i * n + j) v = (xs.set i x').flatMap enc
  | [], i, x, x', h, _ => by simp at h
  | a :: xs, 0, x, x', h, e => by
    simp only [List.getElem?_cons_zero, Option.some.injEq] at h
    subst h
    simp only [List.flatMap_cons, List.set_cons_zero, Nat.zero_mul, Nat.zero_add]
    rw [List.set_append_left _ _ (by rw [he]; exact hj), e]
  | a :: xs, i + 1, x, x', h, e => by
    rw [List.getElem?_cons_succ] at h
    simp only [List.flatMap_cons, List.set_cons_succ]
    rw [List.set_append_right _ _ (by rw [he, Nat.succ_mul]; omega), he, ← flat_set he hj xs i x x' h e]
    congr 2; rw [Nat.succ_mul]; omega
theorem sh_pos' {b n : Int} (h : 0 < n) : sh b n = n + b := if_pos h
theorem sh_neg' {b n : Int} (h : ¬ 0 < n) : sh b n = n := if_neg h
section
variable {b : Int} {l : List Ln} {i : Nat} {x : Ln}
theorem set_self' {α : Type} {l : List α} {i : Nat} {x : α} (h : l[i]? = some x) : l.set i x = l := by
  obtain ⟨h1, rfl⟩ := List.getElem?_eq_some_iff.1 h
  exact List.set_getElem_self h1
theorem ms_cells (hx : l[i]? = some x) : ((ms b l i).flatMap Ln.vs)[i * 11 + 0]? = some (.int .i64 x.lab) ∧ ((ms b l i).flatMap Ln.vs)[i * 11 + 10]? = some (.int .i64 x.to) :=
  ⟨flat_get vs_len _ i x (ms_at hx) 0 (by decide), flat_get vs_len _ i x (ms_at hx) 10 (by decide)⟩
theorem ms_TT (hx : l[i]? = some x) (hp : 0 < x.lab) (hq : 0 < x.to) : ((ms b l i).flatMap Ln.vs).set (i * 11 + 0) (.int .i64 (x.lab + b)) = ((ms b l i).set i ⟨x.lab + b, x.ins, x.to⟩).flatMap Ln.vs ∧
    (((ms b l i).set i ⟨x.lab + b, x.ins, x.to⟩).flatMap Ln.vs)[i * 11 + 10]? = some (.int .i64 x.to) ∧
    (((ms b l i).set i ⟨x.lab + b, x.ins, x.to⟩).flatMap Ln.vs).set (i * 11 + 10) (.int .i64 (x.to + b)) = (ms b l (i + 1)).flatMap Ln.vs := by
  have hm := ms_at (b := b) hx
  have hs : ((ms b l i).set i ⟨x.lab + b, x.ins, x.to⟩)[i]? = some ⟨x.lab + b, x.ins, x.to⟩ := by
    obtain ⟨h1, _⟩ := List.getElem?_eq_some_iff.1 hm
    rw [List.getElem?_set_self h1]
  refine ⟨flat_set vs_len (by decide) _ i x _ hm rfl, flat_get vs_len _ i _ hs 10 (by decide), ?_⟩
  rw [flat_set vs_len (by decide) _ i _ (x.sh b) hs (by unfold Ln.sh; rw [sh_pos' hp, sh_pos' hq]; rfl), List.set_set, ms_next hx]
theorem ms_TF (hx : l[i]? = some x) (hp : 0 < x.lab) (hq : ¬ 0 < x.to) : ((ms b l i).flatMap Ln.vs).set (i * 11 + 0) (.int .i64 (x.lab + b)) = (ms b l (i + 1)).flatMap Ln.vs ∧ ((ms b l (i + 1)).flatMap Ln.vs)[i * 11 + 10]? = some (.int .i64 x.to) := by
  have hm := ms_at (b := b) hx
  obtain ⟨h1, _⟩ := List.getElem?_eq_some_iff.1 hm
  rw [← ms_next hx]
  have hs : ((ms b l i).set i (x.sh b))[i]? = some (x.sh b) := by rw [List.getElem?_set_self h1]
  refine ⟨flat_set vs_len (by decide) _ i x _ hm (by unfold Ln.sh; rw [sh_pos' hp, sh_neg' hq]; rfl), ?_⟩
  have := flat_get vs_len _ i _ hs 10 (by decide)
  rw [this]; unfold Ln.sh; rw [sh_neg' hq]; rfl
theorem ms_FT (hx : l[i]? = some x) (hp : ¬ 0 < x.lab) (hq : 0 < x.to) : ((ms b l i).flatMap Ln.vs).set (i * 11 + 10) (.int .i64 (x.to + b)) = (ms b l (i + 1)).flatMap Ln.vs := by
  rw [← ms_next hx]
  exact flat_set vs_len (by decide) _ i x _ (ms_at hx) (by unfold Ln.sh; rw [sh_neg' hp, sh_pos' hq]; rfl)
theorem ms_FF (hx : l[i]? = some x) (hp : ¬ 0 < x.lab) (hq : ¬ 0 < x.to) : (ms b l i) = (ms b l (i + 1)) := by
  rw [← ms_next hx, show x.sh b = x by unfold Ln.sh; rw [sh_neg' hp, sh_neg' hq]]
  exact (set_self' (ms_at hx)).symm
end
theorem wrap_64 {n : Int} (h : -4611686018427387904 ≤ n ∧ n ≤ 4611686018427387904) : IntKind.i64.wrap n = n := by
  unfold IntKind.wrap
  simp [IntKind.bits, IntKind.signed]
  omega
end Go.Proofs.Ytbcaelhchmoigaa.Ly
