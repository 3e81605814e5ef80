import Derived.Test.YtbcaelhchmoigaaLyB
set_option linter.unusedVariables false
set_option linter.unusedSimpArgs false
namespace Go.Proofs.Ytbcaelhchmoigaa.Ly
open Go Go.RowKit Calm SL
attribute [local irreducible] SL.L SL.C SL.D SL.N SL.H SL.QL SL.QW SL.QP
theorem size_le (x : Ln) : x.size ≤ 11 := by unfold Ln.size; split; · exact out_size' _ _ _ _ _ _ _ _ _
                                             · omega
theorem total_le (l : List Ln) : total l ≤ l.length * 11 := by
  induction l with
  | nil => exact Nat.le_refl _
  | cons x l ih => rw [total_cons, List.length_cons]; have := size_le x; omega
theorem total_snoc (l : List Ln) (x : Ln) : total (l ++ [x]) = total l + x.size := by rw [total_app]; rfl
theorem cnt_one (x : Ln) (n : Int) : cnt [x] n = if n = x.lab then 1 else 0 := by
  unfold cnt
  by_cases h : n = x.lab
  · subst h; simp
  · have : (x.lab == n) = false := by simpa using fun e => h e.symm
    simp [this, h]
theorem cnt_le (l : List Ln) (n : Int) : cnt l n ≤ l.length := List.countP_le_length
theorem firstE_step (all : List Ln) (pre : List Ln) (x : Ln) (r : List Ln) : firstE all pre (x :: r) = if lineE (cnt pre x.lab) (cnt all x.to) x = 0 then firstE all (pre ++ [x]) r else some (pre.length, lineE (cnt pre x.lab) (cnt all x.to) x) := rfl
theorem drop_eq {l : List Ln} {i : Nat} {x : Ln} (h : l[i]? = some x) : l.drop i = x :: l.drop (i + 1) := by
  obtain ⟨h1, rfl⟩ := List.getElem?_eq_some_iff.1 h
  exact List.drop_eq_getElem_cons h1
set_option maxRecDepth 100000 in
set_option maxHeartbeats 16000000 in
theorem lcheck_S (l : List Ln) (hl : l.length ≤ 1000) (hok : ∀ x ∈ l, x.ok) (v : Value) : Ctr Try.prog 10 [v] [] (fun w => Rd w [] v l.length (l.flatMap Ln.vs)) (is (.tuple #[.int .i64 (lcheck l).1, .int .i64 (lcheck l).2]) []) := by
  refine Ctr.enterM Try.func10 Try.ntmps10 rfl rfl (fun w hr => ?_)
  have sv := hr.1
  have hrr : Rd w (keys []) v l.length (l.flatMap Ln.vs) := hr
  repeat (first | refine Af ?_ | refine Ac ?_ | refine Aa ?_ | refine Ae ?_ | refine Ad ?_ | refine Ag ?_ | refine Ai ?_ | refine L.makeMap (c := fun _ => ?_) | refine Az sv ?_)
  rename_i m1 m2
  refine C.loop (α := Nat × Obj) (fun x => x.1 ≤ l.length ∧ MapF x.2 (fun k => (cnt (l.take x.1) k : Int))) (fun x => [(0, v), (4, .map (some m1)), (5, .map (some m2)), (16, v), (17, .int .i64 l.length), (18, .int .i64 (x.1 : Int))]) (fun x => [(m2, x.2), (m1, .map #[] 0)]) (fun x => l.length - x.1) (0, .map #[] 0)
    (fun a w hs => hs.lessE rfl (lk_cons rfl (lk_cons rfl (lk_cons rfl (lk_cons rfl (lk_cons rfl (lk_cons rfl (fun _ _ h => lk_nil h)))))))) ⟨Nat.zero_le _, MapF.nil⟩ ?_
  rintro ⟨i, o⟩ ⟨hi, hF⟩
  simp only at hi hF ⊢
  rcases Nat.lt_or_ge i l.length with hlt | hge
  · have c1 : cm .lss (i : Int) l.length = true := cm_lo (by omega)
    have c2 : ar .add .i64 (i : Int) 1 = ((i + 1 : Nat) : Int) := wrap_nat (by omega)
    obtain ⟨x, hx⟩ : ∃ x, l[i]? = some x := ⟨_, List.getElem?_eq_getElem hlt⟩
    obtain ⟨kc, kl⟩ := ln_at hx
    have oL := hr.2 (by omega)
    have hcl := cnt_le (l.take i) x.lab
    rw [List.length_take] at hcl
    have c3 : ar .add .i64 (cnt (l.take i) x.lab : Int) 1 = ((cnt (l.take i) x.lab + 1 : Nat) : Int) := wrap_nat (by omega)
    repeat (first | refine Af ?_ | refine Ac ?_ | refine Aa ?_ | refine Ae ?_ | refine Ad ?_ | refine Ah ?_ | refine Ao ?_ | refine Ay ?_ | refine Ak 0 ?_ | refine Ab 0 ?_ | refine Aq (fun _ => ?_) | refine Am ?_ | refine Ai ?_ | refine Ar ?_ | refine Ap ?_ | refine Bc ?_ | refine Ba sv hlt ?_ | refine L.loadOA oL (i := i * 11) (ho := by exact rfl) (hi := kl) (hcs := kc) (c := ?_) | refine L.lookF 1 hF (c := ?_) | (refine L.putF 1 hF (kk := ?_); intro o' hF'; simp only [hset]))
    exact D.then_ fun a1 w1 hs => ⟨(i + 1, o'), ⟨hlt, hF'.congr (fun k => by
      rw [take_succ_eq hx, cnt_app, cnt_one]; unfold upd
      by_cases h : k = x.lab
      · rw [if_pos h, if_pos h, h]
      · rw [if_neg h, if_neg h]; rfl)⟩, by show l.length - (i + 1) < l.length - i; omega, hs.less (is := [1, 2]) (by decide) rfl (lk_cons rfl (lk_cons rfl (lk_cons rfl (lk_cons rfl (lk_cons rfl (lk_cons rfl (fun _ _ h => lk_nil h)))))))⟩
  have hFa : MapF o (fun k => (cnt l k : Int)) := by rw [List.take_of_length_le hge] at hF; exact hF
  have c1 : cm .lss (i : Int) l.length = false := cm_lo' (by omega)
  clear hF hi hge
  repeat (first | refine Af ?_ | refine Ac ?_ | refine Aa ?_ | refine Ae ?_ | refine Ad ?_ | refine Ah ?_ | refine Aj ?_ | refine Ai ?_ | refine C.exit ?_ | refine Bg ?_ | refine Bh ?_ | refine Bc ?_ | refine Az sv ?_)
  clear c1
  refine C.loop (α := Nat × Obj) (fun x => x.1 ≤ l.length ∧ MapF x.2 (fun k => if 0 < k then (cnt (l.take x.1) k : Int) else 0) ∧ firstE l [] l = firstE l (l.take x.1) (l.drop x.1)) (fun x => [(0, v), (4, .map (some m1)), (5, .map (some m2)), (28, v), (29, .int .i64 l.length), (30, .int .i64 (x.1 : Int))]) (fun x => [(m2, o), (m1, x.2)]) (fun x => l.length - x.1) (0, .map #[] 0)
    (fun a w hs => hs.lessE rfl (lk_cons rfl (lk_cons rfl (lk_cons rfl (lk_cons rfl (lk_cons rfl (lk_cons rfl (fun _ _ h => lk_nil h)))))))) ⟨Nat.zero_le _, MapF.nil.congr (fun k => by simp [cnt]), rfl⟩ ?_
  rintro ⟨j, o1⟩ ⟨hj, hF, hfe⟩
  simp only at hj hF hfe ⊢
  rcases Nat.lt_or_ge j l.length with hlt | hge
  · have c1 : cm .lss (j : Int) l.length = true := cm_lo (by omega)
    have c2 : ar .add .i64 (j : Int) 1 = ((j + 1 : Nat) : Int) := wrap_nat (by omega)
    obtain ⟨x, hx⟩ : ∃ x, l[j]? = some x := ⟨_, List.getElem?_eq_getElem hlt⟩
    obtain ⟨kc, kl⟩ := ln_at hx
    have oL := hr.2 (by omega)
    have hcl := cnt_le (l.take j) x.lab
    rw [List.length_take] at hcl
    rw [drop_eq hx, firstE_step] at hfe
    have hln := line_S x (hok x (List.mem_of_getElem? hx)) (cnt (l.take j) x.lab) (cnt l x.to) m1 m2 (fun k => if 0 < k then (cnt (l.take j) k : Int) else 0) (fun k => (cnt l k : Int)) (fun h => if_pos h) (fun _ => rfl)
    unfold Ln.V at hln
    generalize lineE (cnt (l.take j) x.lab) (cnt l x.to) x = e at hln hfe
    by_cases he : e = 0
    · have c3 : cm .neq e 0 = false := cm_ne' he
      rw [if_pos he] at hfe
      by_cases hp : 0 < x.lab
      · have c4 : cm .gtr x.lab 0 = true := cm_gt hp
        have c5 : ar .add .i64 (if 0 < x.lab then (cnt (l.take j) x.lab : Int) else 0) 1 = ((cnt (l.take j) x.lab + 1 : Nat) : Int) := by rw [if_pos hp]; exact wrap_nat (by omega)
        repeat (first | refine Af ?_ | refine Ac ?_ | refine Aa ?_ | refine Ae ?_ | refine Ad ?_ | refine Ag ?_ | refine Ah ?_ | refine Ao ?_ | refine Ay ?_ | refine Ak 0 ?_ | refine Al 0 ?_ | refine Ab 0 ?_ | refine Aq (fun _ => ?_) | refine Am ?_ | refine Aj ?_ | refine Ai ?_ | refine Ar ?_ | refine Ap ?_ | refine Bc ?_ | refine Ba sv hlt ?_ | refine L.loadOA oL (i := j * 11) (ho := by exact rfl) (hi := kl) (hcs := kc) (c := ?_) | refine L.callQ hln (hpre := fun w hw => ⟨⟨_, hw.holds (m1, o1) (by simp), hF⟩, ⟨_, hw.holds (m2, o) (by simp), hFa⟩⟩) (k := ?_) | refine L.lookF 2 hF (c := ?_) | (refine L.putF 2 hF (kk := ?_); intro o' hF'; simp only [hset]))
        exact D.then_ fun a1 w1 hs => ⟨(j + 1, o'), ⟨hlt, hF'.congr (fun k => by
          rw [take_succ_eq hx, cnt_app, cnt_one]; unfold upd
          by_cases h : k = x.lab
          · rw [if_pos h, if_pos h, h, if_pos hp]
          · rw [if_neg h, if_neg h]; rfl), by rw [take_succ_eq hx]; exact hfe⟩, by show l.length - (j + 1) < l.length - j; omega, hs.less (is := [1, 2]) (by decide) rfl (lk_cons rfl (lk_cons rfl (lk_cons rfl (lk_cons rfl (lk_cons rfl (lk_cons rfl (fun _ _ h => lk_nil h)))))))⟩
      · have c4 : cm .gtr x.lab 0 = false := cm_gt' (by omega)
        repeat (first | refine Af ?_ | refine Ac ?_ | refine Aa ?_ | refine Ae ?_ | refine Ad ?_ | refine Ag ?_ | refine Ah ?_ | refine Ao ?_ | refine Ay ?_ | refine Ak 0 ?_ | refine Al 0 ?_ | refine Ab 0 ?_ | refine Aq (fun _ => ?_) | refine Am ?_ | refine Aj ?_ | refine Ai ?_ | refine Ar ?_ | refine Ap ?_ | refine Ba sv hlt ?_ | refine L.loadOA oL (i := j * 11) (ho := by exact rfl) (hi := kl) (hcs := kc) (c := ?_) | refine L.callQ hln (hpre := fun w hw => ⟨⟨_, hw.holds (m1, o1) (by simp), hF⟩, ⟨_, hw.holds (m2, o) (by simp), hFa⟩⟩) (k := ?_))
        exact D.then_ fun a1 w1 hs => ⟨(j + 1, o1), ⟨hlt, hF.congr (fun k => by
          rw [take_succ_eq hx, cnt_app, cnt_one]
          by_cases h : k = x.lab
          · rw [if_neg (by omega), if_neg (by omega)]
          · rw [if_neg h]; rfl), by rw [take_succ_eq hx]; exact hfe⟩, by show l.length - (j + 1) < l.length - j; omega, hs.less (is := [1, 2]) (by decide) rfl (lk_cons rfl (lk_cons rfl (lk_cons rfl (lk_cons rfl (lk_cons rfl (lk_cons rfl (fun _ _ h => lk_nil h)))))))⟩
    · have c3 : cm .neq e 0 = true := cm_ne he
      rw [if_neg he, List.length_take, Nat.min_eq_left hj] at hfe
      have hlc : lcheck l = (j, e) := by unfold lcheck; rw [hfe]
      rw [hlc]
      repeat (first | refine Af ?_ | refine Ac ?_ | refine Aa ?_ | refine Ae ?_ | refine Ad ?_ | refine Ag ?_ | refine Ah ?_ | refine Al 0 ?_ | refine Ab 0 ?_ | refine Aq (fun _ => ?_) | refine Am ?_ | refine Ai ?_ | refine An ?_ | refine Av ?_ | refine Bb ?_ | refine Ap ?_ | refine Ba sv hlt ?_ | refine L.loadOA oL (i := j * 11) (ho := by exact rfl) (hi := kl) (hcs := kc) (c := ?_) | refine L.callQ hln (hpre := fun w hw => ⟨⟨_, hw.holds (m1, o1) (by simp), hF⟩, ⟨_, hw.holds (m2, o) (by simp), hFa⟩⟩) (k := ?_))
      exact D.retM (vs := [.int .i64 (j : Int), .int .i64 e]) [] [] (by exact rfl) (by decide) (by exact rfl) (RV.tmp rfl (RV.tmp rfl RV.nil)) (fun w' hw => Post.mk (is := []) hw (by decide) rfl ⟨rfl, rfl⟩)
  have c1 : cm .lss (j : Int) l.length = false := cm_lo' (by omega)
  have hnone : firstE l [] l = none := by rw [hfe, List.drop_eq_nil_of_le hge]; rfl
  have htl := total_le l
  have hlc : lcheck l = (l.length, 0) := by unfold lcheck; rw [hnone]; simp only; rw [if_neg (by omega)]
  rw [hlc]
  repeat (first | refine Af ?_ | refine Ac ?_ | refine Aa ?_ | refine Ae ?_ | refine Ad ?_ | refine Ah ?_ | refine Ab 0 ?_ | refine Aq (fun _ => ?_) | refine Aj ?_ | refine Ai ?_ | refine C.exit ?_ | refine Bg ?_ | refine Bh ?_ | refine Bc ?_ | (refine L.callP [] (sized_S l.length v sv) (by exact rfl) (by exact rfl) (by exact rfl) (by decide) (fun _ _ => trivial) ?_; rintro u B ⟨bs, rfl, rfl⟩; rw [hdrop_nil, List.singleton_append]))
  rename_i b11
  refine C.rangeO (α := Nat × Ln) (β := Unit) (by exact rfl) (by exact rfl) encN [1] (by exact rfl) (by decide) (V := fun pre x => x.1 = pre.length ∧ ∃ r, l = pre.map (·.2) ++ x.2 :: r) (S := fun xs => xs.map (·.2) = l) (Sp := fun pre => ∃ r, l = pre.map (·.2) ++ r)
    (fun w' hw' => sized1_seq l hl hok v w' bs (hw'.holds (bs, _) List.mem_cons_self) _ (hrr.base hw' _ (fun _ h => h)) _ (by have := hw'.nodup; simp [keys] at this ⊢; omega) (by simp [keys]) (by simp [keys]))
    (fun _ => rfl) (by exact rfl) (fun _ _ => True) (fun pre y => [(b11, ob [.int .i64 (total (pre.map (·.2)) : Int)] 3)])
    (fun _ _ _ => False) (fun _ _ _ => []) (fun pre y => rfl) (fun _ _ _ => rfl) () trivial (by exact rfl) ?_ ?_ ?_
  · rintro lb w1 W rec pre ⟨k, x⟩ y hw1 hA _ ⟨_, r, hlr⟩ _
    have e1 := congrArg total hlr
    rw [total_app, total_cons] at e1
    have c2 : ar .add .i64 (total (pre.map (·.2)) : Int) x.size = ((total (pre.map (·.2)) + x.size : Nat) : Int) := wrap_nat (by simp only at e1; omega)
    simp only [pe, encN, List.cons_append, List.nil_append]
    repeat (first | refine Ac ?_ | refine Aa ?_ | refine Ad ?_ | refine Ag ?_ | refine Ao ?_ | refine Ak 0 ?_ | refine Ab 0 ?_ | refine Ai ?_ | refine Ar ?_ | refine D.begin 1 (by exact rfl) (by simp only [hset]; rfl) (by exact rfl) ?_)
    refine D.next () [0, 1] trivial (by decide) ?_
    rw [List.map_append, total_app]; rfl
  · rintro Db xs ⟨⟩ hS _
    have hS' : xs.map (·.2) = l := hS
    rw [hS']
    have c2 : cm .gtr (total l : Int) 1048576 = false := cm_gt' (by omega)
    simp only [hdrop, List.cons_append, List.nil_append]
    repeat (first | refine Af ?_ | refine Ac ?_ | refine Aa ?_ | refine Ae ?_ | refine Ad ?_ | refine Ag ?_ | refine Ah ?_ | refine Ak 1 ?_ | refine Aj ?_ | refine Ar ?_ | refine An ?_ | refine Ap ?_ | refine Bc ?_ | refine Az sv ?_)
    exact D.retM (vs := [.int .i64 (l.length : Int), .int .i64 0]) [Db] [0] (by exact rfl) (by decide) (by exact rfl) (RV.tmp rfl (RV.tmp rfl RV.nil)) (fun w' hw => Post.mk (is := []) hw (by decide) rfl ⟨rfl, rfl⟩)
  · intro Db c pre y _ h; exact h.elim
end Go.Proofs.Ytbcaelhchmoigaa.Ly
