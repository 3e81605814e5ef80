import Derived.Test.YtbcaelhchmoigaaLiA
import Derived.Test.YtbcaelhchmoigaaSepTq
set_option linter.unusedVariables false
set_option linter.unusedSimpArgs false
namespace Go.Proofs.Ytbcaelhchmoigaa.Ly
open Go Go.RowKit Calm SL
section
variable {P : Program} {ops : Array Oper} {Q : Exit → Act → World → Prop} {s : St} {E : Env} {M : Hp} {rest : List Oper} {d t : Nat} {pos : String} {af : Array Edge}
theorem L.dropM (n : Nat) {M' : Hp} (hM : M.drop n = M') (k : L P ops Q rest s E M') : L P ops Q rest s E M := fun a w hs => k a w (hs.lessD n hM (fun _ _ h => h))
theorem L.nodup (k : (keys M).Nodup → L P ops Q rest s E M) : L P ops Q rest s E M := fun a w hs => k hs.at_.nodup a w hs
end
attribute [local irreducible] SL.L SL.C SL.D SL.N SL.H SL.QL SL.QW SL.QP SL.QT
theorem hitN_snoc (R : List (Nat × Ins)) (r : Nat × Ins) (n : Int) : hitN (R ++ [r]) n = hitN R n + if r.2.jump = true ∧ goalI r = n then 1 else 0 := by
  unfold hitN; rw [List.countP_append]
  congr 1
  by_cases h : r.2.jump = true ∧ goalI r = n
  · rw [if_pos h]; simp [h.1, h.2]
  · rw [if_neg h]
    rw [List.countP_eq_zero.2]
    intro x hx hh
    rw [List.mem_singleton.1 hx] at hh
    simp only [Bool.and_eq_true, beq_iff_eq] at hh
    exact h hh
theorem hitN_le (R : List (Nat × Ins)) (n : Int) : hitN R n ≤ R.length := List.countP_le_length
theorem atB_snoc (R : List (Nat × Ins)) (r : Nat × Ins) (len : Nat) (n : Int) : atB (R ++ [r]) len n = (atB R len n || (r.1 : Int) == n) := by
  unfold atB; simp [Bool.or_assoc]
theorem numB_succ (R : List (Nat × Ins)) (k : Nat) : numB R (k + 1) = numB R k + if 0 < hitN R (k : Int) then 1 else 0 := by
  unfold numB; rw [List.range_succ, List.countP_append]
  congr 1
  by_cases h : 0 < hitN R (k : Int) <;> simp [h]
theorem numB_le (R : List (Nat × Ins)) (k : Nat) : numB R k ≤ k := by
  have := List.countP_le_length (p := fun (a : Nat) => decide (0 < hitN R (a : Int))) (l := List.range k)
  rw [List.length_range] at this; exact this
theorem nodup_out {L1 L2 : Hp} (hn : (keys (L1 ++ L2)).Nodup) {x : Nat × Obj} (hx : x ∈ L1) : x.1 ∉ keys L2 := fun h => by
  unfold keys at hn h
  rw [List.map_append, List.nodup_append] at hn
  exact hn.2.2 _ (List.mem_map_of_mem hx) _ h rfl
theorem atB_range {R : List (Nat × Ins)} {len : Nat} {n : Int} (hlt : ∀ r ∈ R, r.1 < len) (h : atB R len n = true) : 0 ≤ n ∧ n < (len + 1 : Nat) := by
  unfold atB at h
  simp only [Bool.or_eq_true, beq_iff_eq, List.any_eq_true] at h
  rcases h with h | ⟨r, hr, h⟩
  · omega
  · have := hlt r hr; omega
def lsOf (R pre : List (Nat × Ins)) : List Ln := pre.flatMap (fun r => lab1 R r.1 ++ [line1 R r])
theorem lsOf_snoc (R pre : List (Nat × Ins)) (r : Nat × Ins) : lsOf R (pre ++ [r]) = lsOf R pre ++ lab1 R r.1 ++ [line1 R r] := by unfold lsOf; simp
theorem lab1_len (R : List (Nat × Ins)) (a : Int) : (lab1 R a).length ≤ 1 := by unfold lab1; split <;> simp
theorem lsOf_len (R : List (Nat × Ins)) : ∀ pre : List (Nat × Ins), (lsOf R pre).length ≤ 2 * pre.length
  | [] => Nat.le_refl _
  | r :: pre => by
    have := lsOf_len R pre; have := lab1_len R r.1
    unfold lsOf at *; simp only [List.flatMap_cons, List.length_append, List.length_cons, List.length_nil]; omega
set_option maxRecDepth 100000 in
set_option maxHeartbeats 40000000 in
theorem lines_S (code : ByteArray) (hl : code.size ≤ 400000) (R : List (Nat × Ins)) (e : Int) (hR : rows (bytesOf code) 0 = R) (he : (if endOf R < code.size then (rdD ((bytesOf code).drop (endOf R))).2.2 else 0) = e) :
    Ctr Try.prog 17 [.string code] [] tt (fun v B => ∃ y, osG 11 (linesM R code.size e).1.length ((linesM R code.size e).1.flatMap Ln.vs) y ∧ v = shut [osV (linesM R code.size e).1.length y, .int .i64 (linesM R code.size e).2] ∧ B = osC 37 y []) := by
  have hA := all_S code (by omega)
  rw [hR] at hA
  simp only [hR] at hA
  rw [he] at hA
  have hE := fun w b hb Bk hBk => each1_seq code (by omega) w b hb Bk hBk
  simp only [hR] at hE
  have hRow : ∀ (pre : List (Nat × Ins)) (k : Nat) (x : Ins) (r : List (Nat × Ins)), R = pre ++ (k, x) :: r → k < code.size ∧ x.ok := by
    intro pre k x r h
    obtain ⟨_, h2, _, h4, _⟩ := rows_at pre (bytesOf code) 0 k x r (bytes_all code) (hR.trans h)
    rw [bytesOf_length] at h2
    exact ⟨by omega, h4⟩
  have hRl : R.length ≤ code.size := by rw [← hR]; have := rows_length (bytesOf code) 0; rwa [bytesOf_length] at this
  refine Ctr.enterM Try.func17 Try.ntmps17 rfl rfl (fun w _ => ?_)
  by_cases hz : e ≠ 0
  · have c1 : cm .neq e 0 = true := cm_ne hz
    have hm : linesM R code.size e = ([], e) := by unfold linesM; rw [if_pos hz]
    rw [hm]
    repeat (first | refine Af ?_ | refine Ac ?_ | refine Aa ?_ | refine Ae ?_ | refine Ad ?_ | refine Ag ?_ | refine Ah ?_ | refine Ab 0 ?_ | refine Ab 1 ?_ | refine Bd ?_ | refine Aq (fun _ => ?_) | refine Am ?_ | refine An ?_ | refine Av ?_ | (refine L.callP [] hA (by exact rfl) (by exact rfl) (by exact rfl) (by decide) (fun _ _ => trivial) ?_; rintro u B ⟨y0, -, rfl, rfl⟩; rw [hdrop_nil]; refine L.dropM (sliceM 35 y0).length (List.drop_left' rfl) ?_; generalize sliceV (R.map (·.2)) y0 = v4))
    exact D.retM (vs := [osV 0 none, .int .i64 e]) [] [] (by exact rfl) (by decide) (by exact rfl) (RV.cell1 1 rfl rfl rfl rfl (RV.cell1 0 rfl rfl rfl rfl RV.nil)) (fun w' hw => Post.mk (is := []) hw (by decide) rfl ⟨none, osG.nil, rfl, rfl⟩)
  obtain rfl : e = 0 := by omega
  have hm0 : linesM R code.size 0 = if R.all (fun r => !r.2.jump || atB R code.size (goalI r)) = true then (lsOf R R ++ lab1 R code.size, 0) else ([], 4) := rfl
  repeat (first | refine Af ?_ | refine Ac ?_ | refine Aa ?_ | refine Ae ?_ | refine Ad ?_ | refine Ag ?_ | refine Ah ?_ | refine Ab 0 ?_ | refine Bd ?_ | refine Aq (fun _ => ?_) | refine Aj ?_ | refine L.lenS (c := ?_) | refine Ai ?_ | refine Ap ?_ | refine L.makeMap (c := fun _ => ?_) | refine L.insertI 0 (hnew := by rfl) (kk := ?_) | (refine L.callP [] hA (by exact rfl) (by exact rfl) (by exact rfl) (by decide) (fun _ _ => trivial) ?_; rintro u B ⟨y0, -, rfl, rfl⟩; rw [hdrop_nil]; refine L.dropM (sliceM 35 y0).length (List.drop_left' rfl) ?_; generalize sliceV (R.map (·.2)) y0 = v4) | (refine L.callP [] (each_S code) (by exact rfl) (by exact rfl) (by exact rfl) (by decide) (fun _ _ => trivial) ?_; rintro u B ⟨bs1, rfl, rfl⟩; rw [hdrop_nil, List.singleton_append]))
  rename_i b2 b3 mb b7 mh b8 b9
  refine C.rangeM (α := Nat × Ins) (β := List MapEntry × Nat) (by exact rfl) (by exact rfl) encR [4, 5] (by exact rfl) (by decide) (V := fun pre x => ∃ r, R = pre ++ x :: r) (S := fun xs => xs = R) (Sp := fun pre => ∃ r, R = pre ++ r)
    (fun w' hw' => hE w' bs1 (hw'.holds (bs1, _) List.mem_cons_self) _ (pick_out (j := 0) (y := (bs1, _)) hw'.nodup rfl (is := [4, 5]) rfl (by decide)))
    (fun _ => rfl) (by exact rfl) (fun pre z => intKeys .i64 z.1 = true ∧ ∀ n, lookI z.1 n = if atB pre code.size n = true then some (.int .i64 0) else none)
    (fun pre z => [(b7, ob [.map (some mb)] 54), (mb, .map z.1.toArray z.2)])
    (fun _ _ _ => False) (fun _ _ _ => []) (fun pre z x hx => by
      simp only [List.mem_cons, List.not_mem_nil, or_false] at hx
      rcases hx with rfl | rfl
      · exact .inl rfl
      · exact .inr ⟨rfl, by simp [keys]⟩) (fun _ _ _ x hx => by cases hx) ([⟨.int .i64 code.size, .int .i64 0, 0⟩], 1) ⟨rfl, fun n => by
        unfold atB lookI
        by_cases h : n = (code.size : Int)
        · simp [h]
        · simp [h, lookI]⟩ (by exact rfl) ?_ ?_ ?_
  · rintro lb w1 W rec pre ⟨k, x⟩ ⟨es, c⟩ hw1 hA1 ⟨g1, g2⟩ ⟨r, hr⟩ _
    simp only at g1 g2
    simp only [pe, encR, List.cons_append, List.nil_append]
    repeat (first | refine Ac ?_ | refine Aa ?_ | refine Ad ?_ | refine Ag ?_ | refine Ak 0 ?_ | refine Ai ?_ | refine D.begin 2 (by exact rfl) (by simp only [hset]; rfl) (by exact rfl) ?_)
    refine L.putE 1 g1 (kk := fun es' c' h1 h2 => ?_)
    simp only [hset]
    repeat (first | refine Aa ?_ | refine Ar ?_)
    refine D.next (es', c') [0, 1, 2] ⟨h1, fun n => ?_⟩ (by decide) rfl
    rw [h2, g2, atB_snoc]
    by_cases h : n = (k : Int)
    · subst h; simp
    · have : ((k : Int) == n) = false := by simpa using fun e => h e.symm
      simp [h, this]
  rotate_left
  · intro Db c pre y _ h; exact h.elim
  rintro Db1 xs ⟨es1, c1⟩ hxs ⟨g1, g2⟩
  rw [hxs] at g2
  simp only at g1 g2
  clear hxs xs
  simp only [hdrop, List.cons_append, List.nil_append]
  repeat (first | refine Af ?_ | refine Ac ?_ | refine Aa ?_ | refine Ae ?_ | refine Ad ?_ | refine Ai ?_ | refine Ar ?_ | refine Bc ?_ | (refine L.callP [] (each_S code) (by exact rfl) (by exact rfl) (by exact rfl) (by decide) (fun _ _ => trivial) ?_; rintro u B ⟨bs2, rfl, rfl⟩; rw [hdrop_nil, List.singleton_append]))
  refine C.rangeM (α := Nat × Ins) (β := List MapEntry × Nat) (by exact rfl) (by exact rfl) encR [2, 3, 5, 6, 7, 8, 9] (by exact rfl) (by decide) (V := fun pre x => ∃ r, R = pre ++ x :: r) (S := fun xs => xs = R) (Sp := fun pre => ∃ r, R = pre ++ r)
    (fun w' hw' => hE w' bs2 (hw'.holds (bs2, _) List.mem_cons_self) _ (pick_out (j := 0) (y := (bs2, _)) hw'.nodup rfl (is := [2, 3, 5, 6, 7, 8, 9]) rfl (by decide)))
    (fun _ => rfl) (by exact rfl) (fun pre z => MapF (.map z.1.toArray z.2) (fun n => (hitN pre n : Int)) ∧ ∀ r ∈ pre, r.2.jump = true → atB R code.size (goalI r) = true)
    (fun pre z => [(b7, ob [.map (some mb)] 54), (mb, .map es1.toArray c1), (b9, ob [.func (.func 34) #[] #[]] 69), (b8, ob [.map (some mh)] 54), (mh, .map z.1.toArray z.2), (b3, ob [.int .i64 0] 24), (b2, ob [.slice none 0 0] 22)])
    (fun c _ _ => c = .ret ∧ linesM R code.size 0 = ([], 4)) (fun _ pre z => [(b7, ob [.map (some mb)] 54), (mb, .map es1.toArray c1), (b9, ob [.func (.func 34) #[] #[]] 69), (b8, ob [.map (some mh)] 54), (mh, .map z.1.toArray z.2), (b3, ob [.int .i64 4] 24), (b2, ob [.slice none 0 0] 22)])
    (fun pre z x hx => by
      simp only [List.mem_cons, List.not_mem_nil, or_false] at hx
      rcases hx with rfl | rfl | rfl | rfl | rfl | rfl | rfl <;> first | exact .inl rfl | exact .inr ⟨rfl, by simp [keys]⟩)
    (fun c pre z x hx => by
      simp only [List.mem_cons, List.not_mem_nil, or_false] at hx
      rcases hx with rfl | rfl | rfl | rfl | rfl | rfl | rfl <;> first | exact .inl rfl | exact .inr ⟨rfl, by simp [keys]⟩) ([], 0) ⟨MapF.nil, fun r h => by cases h⟩ (by exact rfl) ?_ ?_ ?_
  · rintro lb w1 W rec pre ⟨k, x⟩ ⟨es, c⟩ hw1 hA1 ⟨hF, hall⟩ ⟨r, hr⟩ _
    simp only at hF
    obtain ⟨hk, hxo⟩ := hRow pre k x r hr
    have hJ := jump_S x hxo
    unfold insV at hJ
    simp only [pe, encR, List.cons_append, List.nil_append]
    have hpl : pre.length < R.length := by rw [hr]; simp
    cases hj : x.jump with
    | false =>
      rw [hj] at hJ
      repeat (first | refine Af ?_ | refine Ac ?_ | refine Aa ?_ | refine Ae ?_ | refine Ag ?_ | refine Al 0 ?_ | refine Ab 0 ?_ | refine Aq (fun _ => ?_) | refine Am ?_ | refine L.not (c := ?_) | refine Ai ?_ | refine C.exit ?_ | refine Bg ?_ | refine Bh ?_ | refine Au (hJ) ?_ | refine D.begin 8 (by exact rfl) (by simp only [hset]; rfl) (by exact rfl) ?_)
      refine D.next (es, c) [1, 2, 3, 4, 5, 6, 7, 8] ⟨hF.congr (fun n => by rw [hitN_snoc]; simp [hj]), fun r' hr' hj' => ?_⟩ (by decide) rfl
      rcases List.mem_append.1 hr' with h | h
      · exact hall r' h hj'
      · rw [List.mem_singleton.1 h] at hj'; simp [hj] at hj'
    | true =>
      rw [hj] at hJ
      have hG := goal_S k (by omega) x hxo hj
      unfold insV at hG
      have hlk : (if true = true then Value.tuple #[(lookI es1 (goalI (k, x))).getD (.int .i64 0), .bool (lookI es1 (goalI (k, x))).isSome] else (lookI es1 (goalI (k, x))).getD (.int .i64 0)) = .tuple #[.int .i64 0, .bool (atB R code.size (goalI (k, x)))] := by
        rw [g2]; cases atB R code.size (goalI (k, x)) <;> rfl
      have hhl := hitN_le pre (goalI (k, x))
      have c2 : ar .add .i64 (hitN pre (goalI (k, x)) : Int) 1 = ((hitN pre (goalI (k, x)) + 1 : Nat) : Int) := wrap_nat (by omega)
      cases hp : atB R code.size (goalI (k, x)) with
      | false =>
        rw [hp] at hlk
        have hbad : linesM R code.size 0 = ([], 4) := by
          rw [hm0, if_neg]
          intro hh
          have := List.all_eq_true.1 hh (k, x) (by rw [hr]; simp)
          simp [hj, hp] at this
        repeat (first | refine Af ?_ | refine Ac ?_ | refine Aa ?_ | refine Ae ?_ | refine Ad ?_ | refine Ag ?_ | refine Ak 1 ?_ | refine Ak 3 ?_ | refine Al 0 ?_ | refine Ab 0 ?_ | refine Bd ?_ | refine Aq (fun _ => ?_) | refine Am ?_ | refine Aj ?_ | refine L.not (c := ?_) | refine Ai ?_ | refine An ?_ | refine Av ?_ | refine Bb ?_ | refine Ap ?_ | exact D.endsQ | refine QL.fin ?_ | refine C.quiet (h := ?_) | (refine QL.step (v := ?_) (by exact rfl) (by exact rfl) ?_ ?_; rotate_left) | refine Ak 5 ?_ | refine Ak 6 ?_ | refine Ak 7 ?_ | refine Ak 8 ?_ | refine Al 5 ?_ | refine Al 6 ?_ | refine Al 7 ?_ | refine Al 8 ?_ | refine Ab 5 ?_ | refine Ab 6 ?_ | refine Ab 7 ?_ | refine Ab 8 ?_ | refine Au (hJ) ?_ | refine D.begin 8 (by exact rfl) (by simp only [hset]; rfl) (by exact rfl) ?_ | (refine L.callD 9 hG (k := ?_); rintro v B ⟨rfl, rfl⟩; simp only [List.take_succ_cons, List.take_zero, List.take_nil, List.cons_append, List.nil_append]) | refine L.lookupI 2 (z := .int .i64 0) (es := es1) (by exact rfl) (by exact rfl) (by exact rfl) (by exact rfl) g1 hlk ?_)
        exact D.nextRet (es, c) [1, 2, 3, 4, 5, 6, 7, 8] ⟨rfl, hbad⟩ (by decide) rfl
      | true =>
        rw [hp] at hlk
        repeat (first | refine Af ?_ | refine Ac ?_ | refine Aa ?_ | refine Ae ?_ | refine Ad ?_ | refine Ag ?_ | refine Ak 1 ?_ | refine Ak 3 ?_ | refine Al 0 ?_ | refine Ab 0 ?_ | refine Bd ?_ | refine Aq (fun _ => ?_) | refine Aj ?_ | refine L.not (c := ?_) | refine Ai ?_ | refine Ap ?_ | exact D.endsQ | refine QL.fin ?_ | refine C.quiet (h := ?_) | (refine QL.step (v := ?_) (by exact rfl) (by exact rfl) ?_ ?_; rotate_left) | refine Ak 5 ?_ | refine Ak 6 ?_ | refine Ak 7 ?_ | refine Ak 8 ?_ | refine Al 5 ?_ | refine Al 6 ?_ | refine Al 7 ?_ | refine Al 8 ?_ | refine Ab 5 ?_ | refine Ab 6 ?_ | refine Ab 7 ?_ | refine Ab 8 ?_ | refine Au (hJ) ?_ | refine D.begin 8 (by exact rfl) (by simp only [hset]; rfl) (by exact rfl) ?_ | (refine L.callD 9 hG (k := ?_); rintro v B ⟨rfl, rfl⟩; simp only [List.take_succ_cons, List.take_zero, List.take_nil, List.cons_append, List.nil_append]) | refine L.lookupI 2 (z := .int .i64 0) (es := es1) (by exact rfl) (by exact rfl) (by exact rfl) (by exact rfl) g1 hlk ?_)
        rename_i b12
        refine C.tail (h := ?_)
        iterate 7 ((refine QT.step (v := ?_) (by exact rfl) (by exact rfl) ?_ ?_; rotate_left); repeat (first | refine Aa ?_ | refine Ad ?_ | refine Ao ?_ | refine Ak 3 ?_ | refine Ak 4 ?_ | refine Al 0 ?_ | exact D.endsQ | refine Ak 5 ?_ | refine Ak 6 ?_ | refine Ak 7 ?_ | refine Ak 8 ?_ | refine Al 5 ?_ | refine Al 6 ?_ | refine Al 7 ?_ | refine Al 8 ?_ | refine Ab 5 ?_ | refine Ab 6 ?_ | refine Ab 7 ?_ | refine Ab 8 ?_ | (refine L.callD 9 hG (k := ?_); rintro v B ⟨rfl, rfl⟩; simp only [List.take_succ_cons, List.take_zero, List.take_nil, List.cons_append, List.nil_append]) | refine L.lookF 5 hF (c := ?_) | exact D.endsQ))
        refine QT.last ?_
        refine L.putF 5 hF (kk := fun o' hF' => ?_)
        simp only [hset]
        obtain ⟨es', c', rfl, hk1, hk2⟩ := hF'
        repeat (first | refine Aa ?_ | refine Ar ?_)
        refine D.next (es', c') [1, 2, 3, 4, 5, 6, 7, 8] ⟨⟨es', c', rfl, hk1, fun n => ?_⟩, fun r' hr' hj' => ?_⟩ (by decide) rfl
        · rw [hk2]
          unfold upd
          simp only [hitN_snoc]
          by_cases h : n = goalI (k, x)
          · subst h; simp [hj]
          · rw [if_neg h, if_neg (fun hh => h hh.2.symm)]; rfl
        · rcases List.mem_append.1 hr' with h | h
          · exact hall r' h hj'
          · rw [List.mem_singleton.1 h]; exact hp
  rotate_left
  · rintro Db c pre ⟨es, c'⟩ _ ⟨rfl, hbad⟩
    rw [hbad]
    simp only [hdrop, List.cons_append, List.nil_append]
    repeat (first | refine An ?_ | refine Av ?_ | refine Bb ?_)
    exact D.retM (vs := [osV 0 none, .int .i64 4]) [Db, Db1] [0, 9] (by exact rfl) (by decide) (by exact rfl) (RV.cell1 6 rfl rfl rfl rfl (RV.cell1 5 rfl rfl rfl rfl RV.nil)) (fun w' hw => Post.mk (is := []) hw (by decide) rfl ⟨none, osG.nil, rfl, rfl⟩)
  rintro Db2 xs ⟨es2, c2⟩ hxs ⟨hF, hall⟩
  rw [hxs] at hF hall
  simp only at hF hall
  clear hxs xs
  have hgood : linesM R code.size 0 = (lsOf R R ++ lab1 R code.size, 0) := by
    rw [hm0, if_pos]
    rw [List.all_eq_true]
    intro r hr
    cases hj : r.2.jump with
    | false => rfl
    | true => simp [hall r hr hj]
  rw [hgood]
  clear hgood hm0
  have hB0 : MapF (.map es1.toArray c1) (fun _ => 0) := ⟨es1, c1, rfl, g1, fun n => by rw [g2]; split <;> rfl⟩
  simp only [hdrop, List.cons_append, List.nil_append]
  repeat (first | refine Af ?_ | refine Ac ?_ | refine Aa ?_ | refine Ae ?_ | refine Ag ?_ | refine Ai ?_ | refine Ar ?_ | refine Bc ?_)
  have hlt : ∀ r ∈ R, r.1 < code.size := fun r hr => by
    obtain ⟨a, b, hab⟩ := List.append_of_mem hr
    exact (hRow a r.1 r.2 b hab).1
  refine C.loop (α := Nat × List MapEntry × Nat) (fun z => z.1 ≤ code.size + 1 ∧ MapF (.map z.2.1.toArray z.2.2) (fun n => if 0 ≤ n ∧ n < (z.1 : Int) then labB R n else 0)) (fun z => [(0, .string code), (2, .pointer (some ⟨b2, 0, none⟩)), (3, .pointer (some ⟨b3, 0, none⟩)), (7, .pointer (some ⟨b7, 0, none⟩)), (8, .pointer (some ⟨b8, 0, none⟩)), (9, .pointer (some ⟨b9, 0, none⟩)), (15, .int .i64 (numB R z.1 : Int)), (16, .int .i64 (z.1 : Int))])
    (fun z => [(mb, .map z.2.1.toArray z.2.2), (b7, ob [.map (some mb)] 54), (b8, ob [.map (some mh)] 54), (mh, .map es2.toArray c2), (b9, ob [.func (.func 34) #[] #[]] 69), (b3, ob [.int .i64 0] 24), (b2, ob [.slice none 0 0] 22), (Db2, .deferred (some [])), (Db1, .deferred (some []))]) (fun z => code.size + 1 - z.1) (0, es1, c1)
    (fun a w hs => hs.less (is := [2, 1, 4, 5, 3, 6, 7, 0, 9]) (by decide) rfl (lk_cons rfl (lk_cons rfl (lk_cons rfl (lk_cons rfl (lk_cons rfl (lk_cons rfl (lk_cons rfl (lk_cons rfl (fun _ _ h => lk_nil h)))))))))) ⟨Nat.zero_le _, hB0.congr (fun n => by rw [if_neg (by omega)])⟩ ?_
  rintro ⟨i, es, c⟩ ⟨hi, hM⟩
  simp only at hi hM ⊢
  rcases Nat.lt_or_ge code.size i with hge | hle
  rotate_left
  · have d1 : cm .leq (i : Int) code.size = true := cm_le (by omega)
    have d2 : ar .add .i64 (i : Int) 1 = ((i + 1 : Nat) : Int) := wrap_nat (by omega)
    have hnl := numB_le R i
    have d3 : ar .add .i64 (numB R i : Int) 1 = ((numB R i + 1 : Nat) : Int) := wrap_nat (by omega)
    by_cases hh : 0 < hitN R (i : Int)
    · have d4 : cm .gtr (hitN R (i : Int) : Int) 0 = true := cm_gt (by omega)
      have e1 : numB R (i + 1) = numB R i + 1 := by rw [numB_succ, if_pos hh]
      repeat (first | refine Af ?_ | refine Ac ?_ | refine Aa ?_ | refine Ae ?_ | refine Ad ?_ | refine Ag ?_ | refine Ah ?_ | refine Ao ?_ | refine Ak 1 ?_ | refine Ak 2 ?_ | refine Am ?_ | refine L.lenS (c := ?_) | refine Ai ?_ | refine Ap ?_ | refine L.lookF 3 hF (c := ?_))
      refine L.putF 0 hM (kk := fun o' hF' => ?_)
      obtain ⟨es', c', rfl, hk1, hk2⟩ := hF'
      simp only [hset]
      repeat (first | refine Ac ?_ | refine Aa ?_ | refine Ad ?_ | refine Ag ?_ | refine Ao ?_ | refine Ar ?_ | refine Bc ?_)
      refine D.then_ fun a1 w1 hs => ⟨(i + 1, es', c'), ⟨by show i + 1 ≤ code.size + 1; omega, es', c', rfl, hk1, fun n => ?_⟩, by show code.size + 1 - (i + 1) < code.size + 1 - i; omega, ?_⟩
      · rw [hk2]; unfold upd
        by_cases h : n = (i : Int)
        · subst h
          rw [if_pos rfl]; simp only
          rw [if_pos (by omega)]; unfold labB; rw [if_pos hh, Int.toNat_natCast, e1]
        · rw [if_neg h]; simp only
          by_cases h2 : 0 ≤ n ∧ n < (i : Int)
          · rw [if_pos h2, if_pos (by omega)]
          · rw [if_neg h2, if_neg (by omega)]
      · simp only [e1]
        exact hs.lessE rfl (lk_cons rfl (lk_cons rfl (lk_cons rfl (lk_cons rfl (lk_cons rfl (lk_cons rfl (lk_cons rfl (lk_cons rfl (fun _ _ h => lk_nil h)))))))))
    · have d4 : cm .gtr (hitN R (i : Int) : Int) 0 = false := cm_gt' (by omega)
      have e1 : numB R (i + 1) = numB R i := by rw [numB_succ, if_neg hh]; rfl
      repeat (first | refine Af ?_ | refine Ac ?_ | refine Aa ?_ | refine Ae ?_ | refine Ad ?_ | refine Ag ?_ | refine Ah ?_ | refine Ao ?_ | refine Ak 2 ?_ | refine Am ?_ | refine Aj ?_ | refine L.lenS (c := ?_) | refine Ai ?_ | refine Ar ?_ | refine Ap ?_ | refine L.lookF 3 hF (c := ?_))
      refine D.then_ fun a1 w1 hs => ⟨(i + 1, es, c), ⟨by show i + 1 ≤ code.size + 1; omega, hM.congr (fun n => ?_)⟩, by show code.size + 1 - (i + 1) < code.size + 1 - i; omega, ?_⟩
      · by_cases h : n = (i : Int)
        · subst h
          rw [if_neg (by omega), if_pos (by omega)]; unfold labB; rw [if_neg hh]
        · by_cases h2 : 0 ≤ n ∧ n < (i : Int)
          · rw [if_pos h2, if_pos (by omega)]
          · rw [if_neg h2, if_neg (by omega)]
      · simp only [e1]
        exact hs.lessE rfl (lk_cons rfl (lk_cons rfl (lk_cons rfl (lk_cons rfl (lk_cons rfl (lk_cons rfl (lk_cons rfl (lk_cons rfl (fun _ _ h => lk_nil h)))))))))
  obtain rfl : i = code.size + 1 := by omega
  have d1 : cm .leq ((code.size + 1 : Nat) : Int) code.size = false := cm_le' (by omega)
  obtain ⟨fh, hfh⟩ : ∃ fh, fh = fun n => (hitN R n : Int) := ⟨_, rfl⟩
  obtain ⟨fb, hfb⟩ : ∃ fb, fb = fun n => if 0 ≤ n ∧ n < ((code.size + 1 : Nat) : Int) then labB R n else 0 := ⟨_, rfl⟩
  rw [← hfh] at hF
  rw [← hfb] at hM
  have hfb1 : ∀ n, 0 ≤ n ∧ n < ((code.size + 1 : Nat) : Int) → fb n = labB R n := fun n h => by rw [hfb]; exact if_pos h
  have hlb1 : ∀ a : Nat, a ≤ code.size → (if 0 < fh (a : Int) then [lbl (fb (a : Int))] else []) = lab1 R (a : Int) := fun a ha => by
    rw [hfb1 _ (by omega), hfh]
    unfold lab1 lbl
    simp only
    by_cases h : 0 < hitN R (a : Int)
    · rw [if_pos (by omega), if_pos h]
    · rw [if_neg (by omega), if_neg h]
  clear hB0 g1 g2 hi hge
  repeat (first | refine Af ?_ | refine Ac ?_ | refine Aa ?_ | refine Ae ?_ | refine Ad ?_ | refine Ah ?_ | refine Ab 0 ?_ | refine Aq (fun _ => ?_) | refine Aj ?_ | refine L.lenS (c := ?_) | refine Ai ?_ | refine C.exit ?_ | refine Bg ?_ | refine Bh ?_ | refine Bc ?_ | refine L.makeFunc (k := ?_) | refine L.makeFunc (by exact rfl) (by exact rfl) (by exact rfl) ?_ | (refine L.callP [] (each_S code) (by exact rfl) (by exact rfl) (by exact rfl) (by decide) (fun _ _ => trivial) ?_; rintro u B ⟨bs3, rfl, rfl⟩; rw [hdrop_nil, List.singleton_append]))
  rename_i b17 b18
  refine C.rangeO (α := Nat × Ins) (β := OS) (by exact rfl) (by exact rfl) encR [1, 7, 5, 4, 2] (by exact rfl) (by decide) (V := fun pre x => ∃ r, R = pre ++ x :: r) (S := fun xs => xs = R) (Sp := fun pre => ∃ r, R = pre ++ r)
    (fun w' hw' => hE w' bs3 (hw'.holds (bs3, _) List.mem_cons_self) _ (pick_out (j := 0) (y := (bs3, _)) hw'.nodup rfl (is := [1, 7, 5, 4, 2]) rfl (by decide)))
    (fun _ => rfl) (by exact rfl) (fun pre y => osG 11 (lsOf R pre).length ((lsOf R pre).flatMap Ln.vs) y)
    (fun pre y => (b18, ob [.func (.func 37) #[] #[.pointer (some ⟨b8, 0, none⟩), .pointer (some ⟨b17, 0, none⟩), .pointer (some ⟨b7, 0, none⟩)]] 74) :: (b9, ob [.func (.func 34) #[] #[]] 69) :: lbM b8 b7 b17 mh mb (lsOf R pre).length y)
    (fun _ _ _ => False) (fun _ _ _ => []) (fun pre y => by rcases y with _ | ⟨_, _, _⟩ <;> rfl) (fun _ _ _ => rfl) none osG.nil (by exact rfl) ?_ ?_ ?_
  · rintro lb w1 W rec pre ⟨k, x⟩ y hw1 hA1 hG ⟨r, hr⟩ hlb
    obtain ⟨hk, hxo⟩ := hRow pre k x r hr
    have hmh := Held.round (b := mh) (o := .map es2.toArray c2) (by simp) hw1 hA1 (pick_out (j := 6) (y := (mh, _)) hw1.nodup rfl (is := [1, 7, 5, 4, 2]) rfl (by decide)) hlb
    have hmb := Held.round (b := mb) (o := .map es.toArray c) (by simp) hw1 hA1 (pick_out (j := 3) (y := (mb, _)) hw1.nodup rfl (is := [1, 7, 5, 4, 2]) rfl (by decide)) hlb
    have hpl : pre.length < R.length := by rw [hr]; simp
    have hll := lsOf_len R pre
    have hl1 := lab1_len R (k : Int)
    have hLab := label_S (k : Int) b8 b7 b17 mh mb _ _ fh fb hF hM (lsOf R pre) (by omega) y hG (fun h => hmh.2 (List.mem_cons_of_mem _ (List.mem_cons_of_mem _ (List.mem_cons_of_mem _ h)))) (fun h => hmb.2 (List.mem_cons_of_mem _ (List.mem_cons_of_mem _ (List.mem_cons_of_mem _ h))))
    rw [hlb1 k (by omega)] at hLab
    have hJ := jump_S x hxo
    unfold insV at hJ
    have hm1 : (lsOf R pre ++ lab1 R (k : Int)).length + 1 ≤ maxLen := by rw [List.length_append]; unfold maxLen; omega
    have hm2 : ((lsOf R pre ++ lab1 R (k : Int)).length + 1) * 88 ≤ 140737488355328 := by rw [List.length_append]; omega
    have eq1 : (lsOf R pre ++ lab1 R (k : Int)).flatMap Ln.vs ++ Ln.vs (line1 R (k, x)) = (lsOf R (pre ++ [(k, x)])).flatMap Ln.vs := by rw [lsOf_snoc]; simp
    have eq2 : (lsOf R pre ++ lab1 R (k : Int)).length + 1 = (lsOf R (pre ++ [(k, x)])).length := by rw [lsOf_snoc]; simp [Nat.add_assoc]
    refine C.perm (M' := (lb, .loop rec) :: (b18, ob [.func (.func 37) #[] #[.pointer (some ⟨b8, 0, none⟩), .pointer (some ⟨b17, 0, none⟩), .pointer (some ⟨b7, 0, none⟩)]] 74) :: (b9, ob [.func (.func 34) #[] #[]] 69) :: lbM b8 b7 b17 mh mb (lsOf R pre).length y) ((List.perm_append_singleton _ _).symm) ?_
    simp only [pe, encR, List.cons_append, List.nil_append]
    cases hj : x.jump with
    | false =>
      rw [hj] at hJ
      have hline : line1 R (k, x) = ⟨0, x, 0⟩ := by unfold line1; rw [if_neg (by simp [hj])]
      repeat (first | refine Af ?_ | refine Ac ?_ | refine Aa ?_ | refine Ae ?_ | refine Ad ?_ | refine Ag ?_ | refine Ak 2 ?_ | refine Al 0 ?_ | refine Al 1 ?_ | refine Ab 0 ?_ | refine As ?_ | refine Aq (fun _ => ?_) | refine Aj ?_ | refine Ai ?_ | refine Ap ?_ | refine Bc ?_ | refine L.buildS (c := fun _ => ?_) | refine Ak 5 ?_ | refine Ak 6 ?_ | refine Ak 7 ?_ | refine Al 5 ?_ | refine Al 6 ?_ | refine Al 7 ?_ | refine Ab 5 ?_ | refine Ab 6 ?_ | refine Ab 7 ?_ | refine Au (hJ) ?_ | refine D.begin 1 (by exact rfl) (by simp only [hset]; rfl) (by exact rfl) ?_ | (refine L.callD 4 hLab (hpre := fun w' hw' => ⟨(hw'.keeps.block mh (some_lt hmh.1) hmh.2).trans hmh.1, (hw'.keeps.block mb (some_lt hmb.1) hmb.2).trans hmb.1⟩) (k := ?_); rintro v B ⟨rfl, y1, hG1, rfl⟩; simp only [List.take_succ_cons, List.take_zero, List.take_nil, List.cons_append, List.nil_append]))
      rename_i nb
      refine L.appendU [_, _, _, _, _, _, _, _, _] (L2 := []) (y := y1) (m := (lsOf R pre ++ lab1 R (k : Int)).length) (u := .slice (some ⟨nb, 0, none⟩) 1 1) (k := 1) (news := Ln.vs (line1 R (k, x))) hG1 rfl (fun w hw => Rd.own (hw.holds _ List.mem_cons_self) (by simp) (Nat.le_refl _) 11 (by rw [hline]; rfl)) rfl (by have := ones_vs [line1 R (k, x)]; simpa using this) hm1 hm2 (c := fun y2 hG2 _ => ?_)
      simp only [List.cons_append, List.nil_append]
      rw [eq1, eq2] at hG2
      rw [eq2]
      repeat (first | refine L.storeV 8 (hc := osV_cells _ _) (ho := osV_one _ _) (c := ?_) | refine Aa ?_ | refine Ar ?_)
      rcases y2 with _ | ⟨p1, q1, s1⟩
      · exact D.next none [4, 5, 6, 7, 8, 3] hG2 (by decide) rfl
      · exact D.next (some (p1, q1, s1)) [4, 5, 6, 7, 8, 9, 3] hG2 (by decide) rfl
    | true =>
      rw [hj] at hJ
      have hGo := goal_S k (by omega) x hxo hj
      unfold insV at hGo
      have hgr := atB_range hlt (hall (k, x) (by rw [hr]; simp) hj)
      have hfg := hfb1 _ hgr
      have hline : line1 R (k, x) = ⟨0, ⟨x.op, x.d, x.s, x.t, x.mb, x.mi, x.ms, x.md, 0⟩, labB R (goalI (k, x))⟩ := by unfold line1; rw [if_pos hj]
      repeat (first | refine Af ?_ | refine Ac ?_ | refine Aa ?_ | refine Ae ?_ | refine Ad ?_ | refine Ag ?_ | refine Ak 2 ?_ | refine Al 0 ?_ | refine Al 1 ?_ | refine Ab 0 ?_ | refine As ?_ | refine Aq (fun _ => ?_) | refine Am ?_ | refine Ai ?_ | refine Bc ?_ | refine Ak 5 ?_ | refine Ak 6 ?_ | refine Ak 7 ?_ | refine Al 5 ?_ | refine Al 6 ?_ | refine Al 7 ?_ | refine Ab 5 ?_ | refine Ab 6 ?_ | refine Ab 7 ?_ | refine Au (hJ) ?_ | refine D.begin 1 (by exact rfl) (by simp only [hset]; rfl) (by exact rfl) ?_ | (refine L.callD 4 hLab (hpre := fun w' hw' => ⟨(hw'.keeps.block mh (some_lt hmh.1) hmh.2).trans hmh.1, (hw'.keeps.block mb (some_lt hmb.1) hmb.2).trans hmb.1⟩) (k := ?_); rintro v B ⟨rfl, y1, hG1, rfl⟩; simp only [List.take_succ_cons, List.take_zero, List.take_nil, List.cons_append, List.nil_append]))
      refine C.mixed (h := ?_)
      refine QW.load 6 (k := ?_)
      refine QW.load 4 (k := ?_)
      (refine QW.free (v := ?_) (by exact rfl) (by exact rfl) (fun wq hkq => ?_) ?_; rotate_left)
      · repeat (first | refine Aa ?_ | refine Ad ?_ | exact D.endsQ | exact D.endsQ)
      refine QW.loadA 1 (k := ?_)
      (refine QW.free (v := ?_) (by exact rfl) (by exact rfl) (fun wq hkq => ?_) ?_; rotate_left)
      · refine L.callD 0 hGo (k := ?_)
        rintro v B ⟨rfl, rfl⟩
        repeat (first | refine Aa ?_ | exact D.endsQ | exact D.endsQ)
      (refine QW.free (v := ?_) (by exact rfl) (by exact rfl) (fun wq hkq => ?_) ?_; rotate_left)
      · refine L.lookO hM ((hkq.block mb (some_lt hmb.1) hmb.2).trans hmb.1) (by simp) (c := ?_)
        rw [hfg]
        repeat (first | refine Aa ?_ | exact D.endsQ | exact D.endsQ)
      (refine QW.free (v := ?_) (by exact rfl) (by exact rfl) (fun wq hkq => ?_) ?_; rotate_left)
      · repeat (first | refine Aa ?_ | refine Ay ?_ | exact D.endsQ | exact D.endsQ)
      refine QW.store 0 (k := ?_)
      (refine QW.free (v := ?_) (by exact rfl) (by exact rfl) (fun wq hkq => ?_) ?_; rotate_left)
      · repeat (first | refine Aa ?_ | refine Ay ?_ | exact D.endsQ | exact D.endsQ)
      (refine QW.free (v := ?_) (by exact rfl) (by exact rfl) (fun wq hkq => ?_) ?_; rotate_left)
      · repeat (first | refine Aa ?_ | refine Ay ?_ | exact D.endsQ | exact D.endsQ)
      refine QW.store 0 (k := ?_)
      refine QW.fin (h := ?_)
      repeat (first | refine Ac ?_ | refine Ae ?_ | refine Al 0 ?_ | refine L.buildS (c := fun _ => ?_) | refine Ak 5 ?_ | refine Ak 6 ?_ | refine Ak 7 ?_ | refine Al 5 ?_ | refine Al 6 ?_ | refine Al 7 ?_ | refine Ab 5 ?_ | refine Ab 6 ?_ | refine Ab 7 ?_)
      rename_i nb
      refine L.appendU [_, _, _, _, _, _, _, _, _] (L2 := []) (y := y1) (m := (lsOf R pre ++ lab1 R (k : Int)).length) (u := .slice (some ⟨nb, 0, none⟩) 1 1) (k := 1) (news := Ln.vs (line1 R (k, x))) hG1 rfl (fun w hw => Rd.own (hw.holds _ List.mem_cons_self) (by simp) (Nat.le_refl _) 11 (by rw [hline]; rfl)) rfl (by have := ones_vs [line1 R (k, x)]; simpa using this) hm1 hm2 (c := fun y2 hG2 _ => ?_)
      simp only [List.cons_append, List.nil_append]
      rw [eq1, eq2] at hG2
      rw [eq2]
      repeat (first | refine L.storeV 8 (hc := osV_cells _ _) (ho := osV_one _ _) (c := ?_) | refine Aa ?_ | refine Ar ?_)
      rcases y2 with _ | ⟨p1, q1, s1⟩
      · exact D.next none [4, 5, 6, 7, 8, 3] hG2 (by decide) rfl
      · exact D.next (some (p1, q1, s1)) [4, 5, 6, 7, 8, 9, 3] hG2 (by decide) rfl
  rotate_left
  · intro Db c pre y _ h; exact h.elim
  rintro Db3 xs y hxs hG
  rw [hxs] at hG ⊢
  have hll := lsOf_len R R
  refine D.perm (M' := (Db3, .deferred (some [])) :: (b18, ob [.func (.func 37) #[] #[.pointer (some ⟨b8, 0, none⟩), .pointer (some ⟨b17, 0, none⟩), .pointer (some ⟨b7, 0, none⟩)]] 74) :: (b9, ob [.func (.func 34) #[] #[]] 69) :: ([(bs3, ob [.string code] 9), (mb, .map es.toArray c), (mh, .map es2.toArray c2), (b3, ob [.int .i64 0] 24), (b2, ob [.slice none 0 0] 22), (Db2, .deferred (some [])), (Db1, .deferred (some []))] ++ lbM b8 b7 b17 mh mb (lsOf R R).length y)) (List.Perm.cons _ (List.Perm.cons _ (List.Perm.cons _ List.perm_append_comm))) ?_
  simp only [List.cons_append, List.nil_append]
  repeat (first | refine Af ?_ | refine Ac ?_ | refine Ad ?_ | refine Ak 1 ?_ | refine L.lenS (c := ?_) | refine Ar ?_ | refine Bc ?_)
  refine L.nodup (fun hnd => ?_)
  have nh := nodup_out (L1 := [_, _, _, _, _, (mh, .map es2.toArray c2), _, _, _, _]) hnd (x := (mh, .map es2.toArray c2)) (by simp)
  have nb := nodup_out (L1 := [_, _, _, _, (mb, .map es.toArray c), _, _, _, _, _]) hnd (x := (mb, .map es.toArray c)) (by simp)
  have hLab := label_S (code.size : Int) b8 b7 b17 mh mb _ _ fh fb hF hM (lsOf R R) (by omega) y hG nh nb
  rw [hlb1 code.size (Nat.le_refl _)] at hLab
  refine L.callD 10 hLab (hpre := fun w' hw' => ⟨hw'.holds (mh, _) (by simp), hw'.holds (mb, _) (by simp)⟩) (k := ?_)
  rintro v B ⟨rfl, y2, hG2, rfl⟩
  simp only [List.take_succ_cons, List.take_zero, List.take_nil, List.cons_append, List.nil_append]
  generalize lsOf R R ++ lab1 R (code.size : Int) = LS at hG2 ⊢
  repeat (first | refine L.storeV 7 (hc := osV_cells _ _) (ho := osV_one _ _) (c := ?_) | refine Af ?_ | refine Ac ?_ | refine Aa ?_ | refine Ae ?_ | refine An ?_ | refine Bc ?_ | refine Ak 5 ?_ | refine Ak 6 ?_ | refine Ak 7 ?_ | refine Ak 12 ?_ | refine Al 5 ?_ | refine Al 6 ?_ | refine Al 7 ?_ | refine Al 12 ?_ | refine Ab 5 ?_ | refine Ab 6 ?_ | refine Ab 7 ?_ | refine Ab 12 ?_)
  rcases y2 with _ | ⟨p1, q1, s1⟩
  · exact D.retM (vs := [osV LS.length none, .int .i64 0]) [Db3, Db2, Db1] [0, 8, 9] (by exact rfl) (by decide) (by exact rfl) (RV.cell1 6 rfl rfl rfl rfl (RV.cell1 5 rfl rfl rfl rfl RV.nil)) (fun w' hw => Post.mk (is := []) hw (by decide) rfl ⟨none, hG2, rfl, rfl⟩)
  · exact D.retM (vs := [osV LS.length (some (p1, q1, s1)), .int .i64 0]) [Db3, Db2, Db1] [0, 8, 9] (by exact rfl) (by decide) (by exact rfl) (RV.cell1 6 rfl rfl rfl rfl (RV.cell1 5 rfl rfl rfl rfl RV.nil)) (fun w' hw => Post.mk (is := [10]) hw (by decide) rfl ⟨some (p1, q1, s1), hG2, rfl, rfl⟩)
end Go.Proofs.Ytbcaelhchmoigaa.Ly
