/- Limb programs as lists; keysmithkit.Own. -/
import Derived.Test.YtkjlgapkcdcmgaaCmp
set_option linter.unusedVariables false
set_option linter.unusedSimpArgs false
namespace Go.Proofs.Ytkjlgapkcdcmgaa
open Go Go.RowKit SL
attribute [local irreducible] SL.L SL.C SL.D SL.N SL.H SL.QL SL.QW SL.QP

structure Lop where
  k : Int
  d : Int
  e : Int
  a : Int
  b : Int
  c : Int
  buf : Int
  imm : Int
deriving DecidableEq
structure Bf where
  size : Int
  kind : Int
  sec : Bool
deriving DecidableEq
def encO (o : Lop) : List Value := [.int .i64 o.k, .int .i64 o.d, .int .i64 o.e, .int .i64 o.a, .int .i64 o.b, .int .i64 o.c, .int .i64 o.buf, .int .u64 o.imm]
def encB (b : Bf) : List Value := [.int .i64 b.size, .int .i64 b.kind, .bool b.sec]
theorem encO_len (o : Lop) : (encO o).length = 8 := rfl
theorem encB_len (b : Bf) : (encB b).length = 3 := rfl
theorem oneB_os (m : Nat) (y : OS) : oneB (osV m y) = true := by rcases y with _ | ⟨b, l, cap⟩ <;> rfl
theorem oneB_sl {v : Value} {n : Nat} (h : SlV v n) : oneB v = true := by obtain ⟨p, cap, rfl, _⟩ := h; rfl
def progV (r : Int) (vb vo : Value) : Value := .agg #[.int .i64 r, vb, vo]
theorem ones_flat {α : Type} {enc : α → List Value} (h : ∀ x, ones (enc x)) (xs : List α) : ones (xs.flatMap enc) := by
  intro u hu
  obtain ⟨x, _, hx⟩ := List.mem_flatMap.1 hu
  exact h x u hx
theorem ones_O (o : Lop) : ones (encO o) := by intro u hu; simp [encO] at hu; rcases hu with rfl | rfl | rfl | rfl | rfl | rfl | rfl | rfl <;> rfl
theorem ones_B (b : Bf) : ones (encB b) := by intro u hu; simp [encB] at hu; rcases hu with rfl | rfl | rfl <;> rfl
set_option maxHeartbeats 1000000 in
theorem ownO_S (v : Value) (n : Nat) (cs : List Value) (hn : cs.length = n * 8) (h1 : ones cs) (hb : n ≤ 1000000) : Ctr Try.prog 35 [v] [] (fun w => Rd w [] v n cs)
    (fun u B => ∃ y, osG 8 n cs y ∧ u = shut [osV n y] ∧ B = osC 39 y []) := by
  have f1 : 0 + n ≤ maxLen := by unfold maxLen; omega
  refine Ctr.enter Try.func35 Try.ntmps35 rfl rfl (fun w hr => ?_)
  repeat (first | refine C.seq ?_ | refine C.region ?_ | refine L.nil ?_ | refine D.seq ?_ | refine L.assign (k := ?_))
  refine L.build0 (c := ?_)
  intro y0 hG0
  repeat (first | refine L.move (k := ?_))
  refine L.appendU [] hG0 (by exact rfl) (fun w hw => hr.at hw) hn h1 f1 (by omega) (c := ?_)
  intro y hG _
  rw [List.nil_append] at hG
  rw [List.nil_append]
  repeat (first | refine L.nil ?_ | refine D.seq ?_ | refine L.assign (k := ?_) | refine C.ret ?_)
  refine D.ret (vs := [osV (0 + n) y]) (RV.tmp rfl RV.nil) ?_
  intro w' hw
  rw [Nat.zero_add] at hG ⊢
  exact Post.mkD 0 hw rfl ⟨y, hG, rfl, rfl⟩
set_option maxHeartbeats 1000000 in
theorem ownB_S (v : Value) (n : Nat) (cs : List Value) (hn : cs.length = n * 3) (h1 : ones cs) (hb : n ≤ 1000000) : Ctr Try.prog 53 [v] [] (fun w => Rd w [] v n cs)
    (fun u B => ∃ y, osG 3 n cs y ∧ u = shut [osV n y] ∧ B = osC 33 y []) := by
  have f1 : 0 + n ≤ maxLen := by unfold maxLen; omega
  refine Ctr.enter Try.func53 Try.ntmps53 rfl rfl (fun w hr => ?_)
  repeat (first | refine C.seq ?_ | refine C.region ?_ | refine L.nil ?_ | refine D.seq ?_ | refine L.assign (k := ?_))
  refine L.build0 (c := ?_)
  intro y0 hG0
  repeat (first | refine L.move (k := ?_))
  refine L.appendU [] hG0 (by exact rfl) (fun w hw => hr.at hw) hn h1 f1 (by omega) (c := ?_)
  intro y hG _
  rw [List.nil_append] at hG
  rw [List.nil_append]
  repeat (first | refine L.nil ?_ | refine D.seq ?_ | refine L.assign (k := ?_) | refine C.ret ?_)
  refine D.ret (vs := [osV (0 + n) y]) (RV.tmp rfl RV.nil) ?_
  intro w' hw
  rw [Nat.zero_add] at hG ⊢
  exact Post.mkD 0 hw rfl ⟨y, hG, rfl, rfl⟩
set_option maxHeartbeats 1000000 in
theorem ownU_S (v : Value) (n : Nat) (cs : List Value) (hn : cs.length = n * 1) (h1 : ones cs) (hb : n ≤ 1000000) : Ctr Try.prog 60 [v] [] (fun w => Rd w [] v n cs)
    (fun u B => ∃ y, osG 1 n cs y ∧ u = shut [osV n y] ∧ B = osC 37 y []) := by
  have f1 : 0 + n ≤ maxLen := by unfold maxLen; omega
  refine Ctr.enter Try.func60 Try.ntmps60 rfl rfl (fun w hr => ?_)
  repeat (first | refine C.seq ?_ | refine C.region ?_ | refine L.nil ?_ | refine D.seq ?_ | refine L.assign (k := ?_))
  refine L.build0 (c := ?_)
  intro y0 hG0
  repeat (first | refine L.move (k := ?_))
  refine L.appendU [] hG0 (by exact rfl) (fun w hw => hr.at hw) hn h1 f1 (by omega) (c := ?_)
  intro y hG _
  rw [List.nil_append] at hG
  rw [List.nil_append]
  repeat (first | refine L.nil ?_ | refine D.seq ?_ | refine L.assign (k := ?_) | refine C.ret ?_)
  refine D.ret (vs := [osV (0 + n) y]) (RV.tmp rfl RV.nil) ?_
  intro w' hw
  rw [Nat.zero_add] at hG ⊢
  exact Post.mkD 0 hw rfl ⟨y, hG, rfl, rfl⟩
set_option maxHeartbeats 1000000 in
theorem ownUU_S (v : Value) (n : Nat) (cs : List Value) (hn : cs.length = n * 1) (h1 : ones cs) (hb : n ≤ 1000000) : Ctr Try.prog 59 [v] [] (fun w => Rd w [] v n cs)
    (fun u B => ∃ y, osG 1 n cs y ∧ u = shut [osV n y] ∧ B = osC 47 y []) := by
  have f1 : 0 + n ≤ maxLen := by unfold maxLen; omega
  refine Ctr.enter Try.func59 Try.ntmps59 rfl rfl (fun w hr => ?_)
  repeat (first | refine C.seq ?_ | refine C.region ?_ | refine L.nil ?_ | refine D.seq ?_ | refine L.assign (k := ?_))
  refine L.build0 (c := ?_)
  intro y0 hG0
  repeat (first | refine L.move (k := ?_))
  refine L.appendU [] hG0 (by exact rfl) (fun w hw => hr.at hw) hn h1 f1 (by omega) (c := ?_)
  intro y hG _
  rw [List.nil_append] at hG
  rw [List.nil_append]
  repeat (first | refine L.nil ?_ | refine D.seq ?_ | refine L.assign (k := ?_) | refine C.ret ?_)
  refine D.ret (vs := [osV (0 + n) y]) (RV.tmp rfl RV.nil) ?_
  intro w' hw
  rw [Nat.zero_add] at hG ⊢
  exact Post.mkD 0 hw rfl ⟨y, hG, rfl, rfl⟩

set_option maxHeartbeats 4000000 in
theorem ownProg_S (r : Int) (vb vo : Value) (nb no : Nat) (cb co : List Value) (hb : cb.length = nb * 3) (ho : co.length = no * 8) (h1 : ones cb) (h2 : ones co) (lb : nb ≤ 1000000) (lo : no ≤ 1000000) (sb : SlV vb nb) (so : SlV vo no) :
    Ctr Try.prog 16 [progV r vb vo] [] (fun w => Rd w [] vb nb cb ∧ Rd w [] vo no co)
      (fun u B => ∃ y1 y2, osG 3 nb cb y1 ∧ osG 8 no co y2 ∧ u = shut [progV r (osV nb y1) (osV no y2)] ∧ B = osC 33 y1 (osC 39 y2 [])) := by
  refine Ctr.enter Try.func16 Try.ntmps16 rfl rfl (fun w hr => ?_)
  obtain ⟨hrb, hro⟩ := hr
  unfold progV
  repeat (first | refine C.seq ?_ | refine C.region ?_ | refine L.nil ?_ | refine D.seq ?_ | refine L.alloc (c := fun _ => ?_) | refine L.box (c := fun _ => ?_))
  rename_i b1 b2
  refine C.make (M0 := [(b2, ob [.int .i64 0, .slice none 0 0, .slice none 0 0] 25)]) (by kernel_rfl) (h := ?_)
  (refine QP.quiet (v := ?_) (by exact rfl) (by exact rfl) (fun w1 g1 => ?_) ?_; rotate_left); repeat (first | refine L.nil ?_ | refine L.fieldAddr (c := ?_) | exact D.endsQ)
  (refine QP.quietI (v := ?_) [7] [(b1, ob [.int .i64 r, vb, vo] 25)] (by exact rfl) (by exact rfl) (fun w1 g1 => ?_) ?_; rotate_left); simp only [List.take_succ_cons, List.take_zero, List.take_nil, List.cons_append, List.nil_append]; repeat (first | refine L.nil ?_ | refine L.load1 0 (c := ?_) | exact D.endsQ)
  refine QP.mk0 [] (fun F B => ∃ y, osG 3 nb cb y ∧ F = [(5, osV nb y)] ∧ B = osC 33 y []) (h := fun w1 g1 => ?_) (k := ?_)
  · refine L.callP [] (ownB_S vb nb cb hb h1 lb) (hpre := fun w' hw => (hrb.base g1 _ (fun _ h => h)).at hw) (k := ?_)
    rintro v B ⟨y, hG, rfl, rfl⟩
    rw [hdrop_nil]
    refine L.nil ?_
    exact D.endsP1 (osC 33 y []) (hR := ⟨y, hG, rfl, rfl⟩)
  (refine QP.quiet (v := ?_) (by exact rfl) (by exact rfl) (fun w1 g1 => ?_) ?_; rotate_left); repeat (first | refine L.nil ?_ | refine L.fieldAddr (c := ?_) | exact D.endsQ)
  (refine QP.quietI (v := ?_) [7] [(b1, ob [.int .i64 r, vb, vo] 25)] (by exact rfl) (by exact rfl) (fun w1 g1 => ?_) ?_; rotate_left); simp only [List.take_succ_cons, List.take_zero, List.take_nil, List.cons_append, List.nil_append]; repeat (first | refine L.nil ?_ | refine L.load1 0 (c := ?_) | exact D.endsQ)
  refine QP.mk0 [] (fun F B => ∃ y, osG 8 no co y ∧ F = [(8, osV no y)] ∧ B = osC 39 y []) (h := fun w1 g1 => ?_) (k := ?_)
  · refine L.callP [] (ownO_S vo no co ho h2 lo) (hpre := fun w' hw => (hro.base g1 _ (fun _ h => h)).at hw) (k := ?_)
    rintro v B ⟨y, hG, rfl, rfl⟩
    rw [hdrop_nil]
    refine L.nil ?_
    exact D.endsP1 (osC 39 y []) (hR := ⟨y, hG, rfl, rfl⟩)
  (refine QP.quiet (v := ?_) (by exact rfl) (by exact rfl) (fun w1 g1 => ?_) ?_; rotate_left); repeat (first | refine L.nil ?_ | refine L.fieldAddr (c := ?_) | exact D.endsQ)
  refine QP.mk1 2 [(b1, ob [.int .i64 r, vb, vo] 25)] (fun F B => ∃ y, osG 3 nb cb y ∧ F = [] ∧ B = (b1, ob [.int .i64 r, osV nb y, vo] 25) :: osC 33 y []) (h := ?_) (k := ?_)
  · rintro F B ⟨y, hG, rfl, rfl⟩ w1 g1
    refine L.perm (M' := (b1, ob [.int .i64 r, vb, vo] 25) :: osC 33 y [(b2, ob [.int .i64 0, .slice none 0 0, .slice none 0 0] 25)]) (by rw [osC_app]; exact List.perm_middle.symm) ?_
    refine L.storeV 0 (hc := osV_cells _ _) (ho := osV_one _ _) (c := ?_)
    refine L.nil ?_
    exact D.endsP0 [] ((b1, ob [.int .i64 r, osV nb y, vo] 25) :: osC 33 y []) (hM := by rw [osC_app]; rfl) (hF := fun _ _ h => by cases h) (hR := ⟨y, hG, rfl, rfl⟩)
  (refine QP.quiet (v := ?_) (by exact rfl) (by exact rfl) (fun w1 g1 => ?_) ?_; rotate_left); repeat (first | refine L.nil ?_ | refine L.fieldAddr (c := ?_) | exact D.endsQ)
  refine QP.mk2 7 5 [] (fun F B => ∃ y1 y2, osG 3 nb cb y1 ∧ osG 8 no co y2 ∧ F = [] ∧ B = (b1, ob [.int .i64 r, osV nb y1, osV no y2] 25) :: osC 33 y1 (osC 39 y2 [])) (h := ?_) (k := ?_)
  · rintro F1 B1 F2 B2 ⟨y1, hG1, rfl, rfl⟩ ⟨y2, hG2, rfl, rfl⟩ w1 g1
    refine L.perm (M' := (b1, ob [.int .i64 r, osV nb y1, vo] 25) :: osC 33 y1 (osC 39 y2 [(b2, ob [.int .i64 0, .slice none 0 0, .slice none 0 0] 25)])) (by rw [osC_app 33 y1, osC_app 39 y2 [(b2, _)]]; simp) ?_
    refine L.storeV 0 (hc := osV_cells _ _) (ho := osV_one _ _) (c := ?_)
    refine L.nil ?_
    exact D.endsP0 [] ((b1, ob [.int .i64 r, osV nb y1, osV no y2] 25) :: osC 33 y1 (osC 39 y2 [])) (hM := by rw [osC_app 33 y1, osC_app 39 y2 [(b2, _)], osC_app 33 y1 (osC _ _ [])]; simp) (hF := fun _ _ h => by cases h) (hR := ⟨y1, y2, hG1, hG2, rfl, rfl⟩)
  refine QP.fin1 [none, none, some [], none, none, some [], none, some [2], none, some [7, 5]] 9 (nds := [[], [7], [], [], [7], [], [], [], [], []]) (hM := List.Perm.swap _ _ _) (k := ?_)
  rintro F B ⟨y1, y2, hG1, hG2, rfl, rfl⟩
  refine D.perm (M' := (b1, ob [.int .i64 r, osV nb y1, osV no y2] 25) :: (b2, ob [.int .i64 0, .slice none 0 0, .slice none 0 0] 25) :: osC 33 y1 (osC 39 y2 [])) ?_ ?_
  · rw [List.cons_append]
    exact List.Perm.cons _ (List.perm_append_singleton _ _).symm
  rw [List.nil_append]
  repeat (first | refine C.seq ?_ | refine C.region ?_ | refine D.seq ?_ | refine L.loadA 0 (c := ?_))
  refine L.storeV 1 (vs := [.int .i64 r, osV nb y1, osV no y2]) (ho := by simp only [List.all_cons, List.all_nil, oneB_os, Bool.and_true]; rfl) (c := ?_)
  repeat (first | refine L.nil ?_ | refine D.seq ?_ | refine C.ret ?_)
  refine D.ret (vs := [.agg #[.int .i64 r, osV nb y1, osV no y2]]) (RV.cellA 1 rfl rfl rfl rfl rfl RV.nil) ?_
  intro w' hw
  exact Post.mkD 2 hw rfl ⟨y1, y2, hG1, hG2, rfl, rfl⟩
end Go.Proofs.Ytkjlgapkcdcmgaa
