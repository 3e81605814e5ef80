import Derived.Test.YtbcaelhchmoigaaLyC
set_option linter.unusedVariables false
set_option linter.unusedSimpArgs false
namespace Go.Proofs.Ytbcaelhchmoigaa.Ly
open Go Go.RowKit Calm SL
attribute [local irreducible] SL.L SL.C SL.D SL.N SL.H SL.QL SL.QW SL.QP
def plc (l : List Ln) : List Nat := if (lcheck l).2 = 0 then places 0 l else []
def nums (l : List Nat) : List Value := l.map fun (n : Nat) => Value.int .i64 (n : Int)
theorem places_len : ∀ (l : List Ln) (a : Nat), (places a l).length = l.length
  | [], _ => rfl
  | x :: r, a => by simp only [places, List.length_cons, places_len r]
theorem places_snoc : ∀ (l : List Ln) (a : Nat) (x : Ln), places a (l ++ [x]) = places a l ++ [a + total l]
  | [], a, x => rfl
  | y :: r, a, x => by simp only [List.cons_append, places, places_snoc r, total_cons, Nat.add_assoc]
theorem places_app : ∀ (l m : List Ln) (a : Nat), places a (l ++ m) = places a l ++ places (a + total l) m
  | [], m, a => rfl
  | y :: r, m, a => by simp only [List.cons_append, places, places_app r, total_cons, Nat.add_assoc]
theorem nums_snoc (l : List Nat) (n : Nat) : nums (l ++ [n]) = nums l ++ [.int .i64 (n : Int)] := by unfold nums; simp
theorem ones_i (a : Int) : ones [.int .i64 a] := by intro u hu; simp only [List.mem_cons, List.not_mem_nil, or_false] at hu; subst hu; rfl
set_option maxRecDepth 100000 in
set_option maxHeartbeats 16000000 in
theorem places_S (l : List Ln) (hl : l.length ≤ 1000) (hok : ∀ x ∈ l, x.ok) (v : Value) : Ctr Try.prog 11 [v] [] (fun w => Rd w [] v l.length (l.flatMap Ln.vs))
    (fun u B => ∃ y, osG 1 (plc l).length (nums (plc l)) y ∧ u = shut [osV (plc l).length y, .int .i64 (lcheck l).2] ∧ B = osC 3 y []) := by
  refine Ctr.enterM Try.func11 Try.ntmps11 rfl rfl (fun w hr => ?_)
  have sv := hr.1
  have hrr : Rd w (keys []) v l.length (l.flatMap Ln.vs) := hr
  have hC := lcheck_S l hl hok v
  have htl := total_le l
  unfold plc
  by_cases he : (lcheck l).2 = 0
  · rw [if_pos he]
    rw [he] at hC ⊢
    generalize (lcheck l).1 = q at hC
    repeat (first | refine Af ?_ | refine Ac ?_ | refine Aa ?_ | refine Ae ?_ | refine Ad ?_ | refine Ag ?_ | refine Ah ?_ | refine Ab 0 ?_ | refine Bd ?_ | refine Aq (fun _ => ?_) | refine Aj ?_ | refine Ai ?_ | refine Ap ?_ | refine Au hC (hpre := fun w hw => hr.at hw) ?_ | (refine L.callP [] (sized_S l.length v sv) (by exact rfl) (by exact rfl) (by exact rfl) (by decide) (fun _ _ => trivial) ?_; rintro u B ⟨bs, rfl, rfl⟩; rw [hdrop_nil, List.singleton_append]))
    rename_i b6 b7
    refine C.rangeO (α := Nat × Ln) (β := OS) (by exact rfl) (by exact rfl) encN [1, 2] (by exact rfl) (by decide) (V := fun pre x => x.1 = pre.length ∧ ∃ r, l = pre.map (·.2) ++ x.2 :: r) (S := fun xs => xs.map (·.2) = l) (Sp := fun pre => ∃ r, l = pre.map (·.2) ++ r)
      (fun w' hw' => sized1_seq l hl hok v w' bs (hw'.holds (bs, _) List.mem_cons_self) _ (hrr.base hw' _ (fun _ h => h)) _ (by have := hw'.nodup; simp [keys] at this ⊢; omega) (by simp [keys]) (by simp [keys]))
      (fun _ => rfl) (by exact rfl) (fun pre y => osG 1 pre.length (nums (places 0 (pre.map (·.2)))) y) (fun pre y => (b7, ob [.int .i64 (total (pre.map (·.2)) : Int)] 3) :: (b6, ob [osV pre.length y] 27) :: osC 3 y [])
      (fun _ _ _ => False) (fun _ _ _ => []) (fun pre y => by rcases y with _ | ⟨_, _, _⟩ <;> rfl) (fun _ _ _ => rfl) none osG.nil (by exact rfl) ?_ ?_ ?_
    · rintro lb w1 W rec pre ⟨k, x⟩ y hw1 hA hG ⟨_, r, hlr⟩ _
      have e0 := congrArg List.length hlr
      simp only [List.length_append, List.length_map, List.length_cons] at e0
      have e1 := congrArg total hlr
      rw [total_app, total_cons] at e1
      have c2 : ar .add .i64 (total (pre.map (·.2)) : Int) x.size = ((total (pre.map (·.2)) + x.size : Nat) : Int) := wrap_nat (by simp only at e1; omega)
      have hm1 : pre.length + 1 ≤ maxLen := by unfold maxLen; omega
      refine C.perm (M' := (lb, .loop rec) :: (b7, ob [.int .i64 (total (pre.map (·.2)) : Int)] 3) :: (b6, ob [osV pre.length y] 27) :: osC 3 y []) ((List.perm_append_singleton _ _).symm) ?_
      simp only [pe, encN, List.cons_append, List.nil_append]
      repeat (first | refine Af ?_ | refine Ac ?_ | refine Aa ?_ | refine Ag ?_ | refine Ak 1 ?_ | refine Ak 2 ?_ | refine Ai ?_ | refine L.buildS (c := fun _ => ?_) | refine D.begin 0 (by exact rfl) (by simp only [hset]; rfl) (by exact rfl) ?_)
      rename_i nb
      refine L.appendU [_, _, _, _] (L2 := []) (y := y) (m := pre.length) (u := .slice (some ⟨nb, 0, none⟩) 1 1) (k := 1) (news := [.int .i64 (total (pre.map (·.2)) : Int)]) hG rfl (fun w hw => Rd.own (hw.holds _ List.mem_cons_self) (by simp) (Nat.le_refl _) 1 rfl) rfl (ones_i _) hm1 (by omega) (c := fun y' hG' _ => ?_)
      simp only [List.cons_append, List.nil_append]
      repeat (first | refine Ab 0 (hc := osV_cells _ _) (ho := osV_one _ _) ?_ | refine Ab 1 (hc := osV_cells _ _) (ho := osV_one _ _) ?_ | refine Ab 2 (hc := osV_cells _ _) (ho := osV_one _ _) ?_ | refine Ab 3 (hc := osV_cells _ _) (ho := osV_one _ _) ?_ | refine Ab 4 (hc := osV_cells _ _) (ho := osV_one _ _) ?_ | refine Ab 5 (hc := osV_cells _ _) (ho := osV_one _ _) ?_ | refine Ab 6 (hc := osV_cells _ _) (ho := osV_one _ _) ?_ | refine Ab 7 (hc := osV_cells _ _) (ho := osV_one _ _) ?_ | refine Ac ?_ | refine Aa ?_ | refine Ad ?_ | refine Ao ?_ | refine Ak 2 ?_ | refine Ab 2 ?_ | refine Ar ?_ | refine Bc ?_)
      rcases y' with _ | ⟨p1, q1, s1⟩
      · have := hG'.1; omega
      refine D.next (some (p1, q1, s1)) [2, 3, 4, 1] (by rw [List.length_append, List.map_append]; show osG 1 (pre.length + 1) (nums (places 0 (pre.map (·.2) ++ [x]))) _; rw [places_snoc, nums_snoc, Nat.zero_add]; exact hG') (by decide) ?_
      rw [List.map_append, total_app, List.length_append]; rfl
    · rintro Db xs y hS hG
      have hS' : xs.map (·.2) = l := hS
      have hx : xs.length = l.length := by rw [← hS', List.length_map]
      rw [hS', hx] at hG ⊢
      have hpl := places_len l 0
      rw [hpl]
      simp only [hdrop, List.cons_append, List.nil_append]
      repeat (first | refine Af ?_ | refine Ac ?_ | refine Aa ?_ | refine Ae ?_ | refine Ag ?_ | refine Ak 2 ?_ | refine Ar ?_ | refine An ?_ | refine Bc ?_)
      rcases y with _ | ⟨p1, q1, s1⟩
      · exact D.retM (vs := [osV l.length none, .int .i64 0]) [Db] [0] (by exact rfl) (by decide) (by exact rfl) (RV.tmp rfl (RV.tmp rfl RV.nil)) (fun w' hw => Post.mk (is := []) hw (by decide) rfl ⟨none, hG, rfl, rfl⟩)
      · exact D.retM (vs := [osV l.length (some (p1, q1, s1)), .int .i64 0]) [Db] [0] (by exact rfl) (by decide) (by exact rfl) (RV.tmp rfl (RV.tmp rfl RV.nil)) (fun w' hw => Post.mk (is := [2]) hw (by decide) rfl ⟨some (p1, q1, s1), hG, rfl, rfl⟩)
    · intro Db c pre y _ h; exact h.elim
  · rw [if_neg he]
    generalize (lcheck l).1 = q at hC
    generalize (lcheck l).2 = e at hC he
    have c1 : cm .neq e 0 = true := cm_ne he
    repeat (first | refine Af ?_ | refine Ac ?_ | refine Aa ?_ | refine Ae ?_ | refine Ad ?_ | refine Ag ?_ | refine Ah ?_ | refine Bd ?_ | refine Am ?_ | refine An ?_ | refine Av ?_ | refine Au hC (hpre := fun w hw => hr.at hw) ?_)
    exact D.retM (vs := [osV 0 none, .int .i64 e]) [] [] (by exact rfl) (by decide) (by exact rfl) (RV.tmp rfl (RV.tmp rfl RV.nil)) (fun w' hw => Post.mk (is := []) hw (by decide) rfl ⟨none, osG.nil, rfl, rfl⟩)
end Go.Proofs.Ytbcaelhchmoigaa.Ly
