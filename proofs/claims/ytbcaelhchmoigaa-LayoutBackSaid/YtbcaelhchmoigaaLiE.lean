/- LayoutBack: the walk. -/
import Derived.Test.YtbcaelhchmoigaaLiP
import Derived.Test.YtbcaelhchmoigaaDC
set_option linter.unusedVariables false
set_option linter.unusedSimpArgs false
namespace Go.Proofs.Ytbcaelhchmoigaa.Ly
open Go Go.RowKit Calm SL
attribute [local irreducible] SL.L SL.C SL.D SL.N SL.H SL.QL SL.QW SL.QP

theorem code_back {c : ByteArray} {R : List (Nat × Ins)} {e : Int} (hR : rows (bytesOf c) 0 = R) (he : (if endOf R < c.size then (rdD ((bytesOf c).drop (endOf R))).2.2 else 0) = e) (hs : c.size ≤ 1000000) {X : List Ln} (h : linesM R c.size e = (X, 0)) :
    lbytes X = (c, 0) ∧ labsOK X 0 X ∧ (∀ x ∈ X, x.ok) ∧ X.length ≤ 2 * c.size + 1 := by
  obtain ⟨rfl, rfl, hall⟩ := linesM_ok h
  obtain ⟨g1, _, g3, g4, g5⟩ := rows_end (bytesOf c) 0 (bytes_all c)
  rw [hR, Nat.sub_zero] at g1 g3 g4
  rw [hR] at g5
  rw [bytesOf_length] at g3
  have hend : endAt 0 R = c.size := by
    rcases Nat.lt_or_ge (endAt 0 R) c.size with hlt | hge
    · rw [if_pos hlt] at he
      rcases g4 with g4 | g4
      · have := congrArg List.length g4
        rw [List.length_drop, bytesOf_length, List.length_nil] at this
        omega
      · exact absurd he g4
    · omega
  have hlt : ∀ r ∈ R, r.1 < c.size := by
    intro r hr
    obtain ⟨p1, p2, e⟩ := List.append_of_mem hr
    have := rows_at p1 (bytesOf c) 0 r.1 r.2 p2 (bytes_all c) (hR.trans e)
    have h2 := this.2.1
    rw [bytesOf_length] at h2; omega
  have hch : chainG R c.size 0 R := chain_of (l := bytesOf c) (bytes_all c) hR hend (fun b hb => by
    obtain ⟨r, hr, hj, e⟩ := hit_row hb
    have h1 := hall r hr hj
    rw [e] at h1
    unfold atB at h1
    simp only [Bool.or_eq_true, beq_iff_eq, List.any_eq_true] at h1
    rcases h1 with h1 | ⟨q, hq, h1⟩
    · exact .inr (.inl (by omega))
    · exact .inr (.inr ⟨q, hq, by omega⟩))
  obtain ⟨h1, h2⟩ := lines_back hch hs hall hlt
  have hcat : catR R = c := by
    have h3 := cat_enc (S := R) (fun r hr => (g5 r hr).2)
    rw [g1, hend, List.take_of_length_le (by rw [bytesOf_length]; exact Nat.le_refl _)] at h3
    rw [← strB_bytesOf (catR R), h3, strB_bytesOf]
  rw [hcat] at h1
  refine ⟨h1, h2, Ls_ok (fun r hr => (g5 r hr).1) hs hlt hall, ?_⟩
  have h3 := lsOf_len R R
  have h4 := lab1_len R (c.size : Int)
  have h5 := rows_length (bytesOf c) 0
  rw [hR, bytesOf_length] at h5
  unfold Ls
  rw [List.length_append]; omega
theorem fold_size : ∀ (l : List Ins) (r : ByteArray), (l.foldl (fun r x => r ++ x.out) r).size ≤ r.size + l.length * 11
  | [], r => Nat.le_add_right _ _
  | x :: l, r => by
    have := fold_size l (r ++ x.out)
    have h2 : x.out.size ≤ 11 := out_size' _ _ _ _ _ _ _ _ _
    rw [ByteArray.size_append] at this
    rw [List.foldl_cons, List.length_cons]; omega
theorem outs_size (l : List Ins) : (outs l).size ≤ l.length * 11 := by
  unfold outs; split
  · have := fold_size l ⟨#[]⟩
    have h0 : (⟨#[]⟩ : ByteArray).size = 0 := rfl
    unfold catO; omega
  · exact Nat.zero_le _
theorem rall_arg {W : World} {v : Value} {l : List Ins} (h : Insts W v l) (hl : l.length ≤ 1000) : Ctr Try.prog 25 [v] [] (fun w' => Below W.heap.size W w') (is (.tuple #[.string (outs l), .int .i64 (errOf (allOk l))]) []) := by
  intro w _ _ hb
  have : Calls Try.prog 25 #[v] w fun e w' => e = .returned (.tuple #[.string (outs l), .int .i64 (errOf (allOk l))]) ∧ Below w.heap.size w w' := by
    obtain ⟨hok, ⟨rfl, a, cap, rfl⟩ | ⟨b, off, cap, rfl, hr, hlt⟩⟩ := h
    · exact rall_nil a cap w
    · refine rall_any b off cap l w hl hok (fun j x hx k v hv => ?_) (Nat.lt_of_lt_of_le hlt hb.size)
      rw [hb.cell (p := ⟨b, off + j * 9 + k, none⟩) hlt]; exact hr j x hx k v hv
  refine this.mono ?_
  rintro e w' ⟨rfl, hB⟩
  exact ⟨_, [], rfl, ⟨rfl, rfl⟩, Keeps.of_below hB _, by simp [keys], by simp, by simp⟩
theorem insts_v {W : World} {v : Value} {l : List Ins} (h : Insts W v l) : ∃ a cap, v = .slice a l.length cap := by
  rcases h.2 with ⟨rfl, a, cap, rfl⟩ | ⟨b, off, cap, rfl, _⟩
  · exact ⟨a, cap, rfl⟩
  · exact ⟨_, cap, rfl⟩
theorem seqS (a : ByteArray) : seq a a = true := by unfold seq; simp
def anyTo (X : List Ln) (n : Int) (k : Nat) : Bool := (X.take k).any (fun y => y.to == n)
theorem anyTo_succ {X : List Ln} {n : Int} {k : Nat} {y : Ln} (h : X[k]? = some y) : anyTo X n (k + 1) = (anyTo X n k || y.to == n) := by
  unfold anyTo; rw [take_succ_eq h, List.any_append]; simp
set_option maxRecDepth 100000 in
set_option maxHeartbeats 16000000 in
theorem back_S (v : Value) (l : List Ins) (code : ByteArray) : Ctr Try.prog 8 [v, .string code] [] (fun w => Insts w v l) (is (.bool true) []) := by
  refine Ctr.enter Try.func8 Try.ntmps8 rfl rfl (fun w hw => ?_)
  obtain ⟨a, cap, hv⟩ := insts_v hw
  subst hv
  by_cases hbig : 40 < l.length ∨ 200 < code.size
  · have c0 : cm .gtr (l.length : Int) 40 = true ∨ (cm .gtr (l.length : Int) 40 = false ∧ cm .gtr (code.size : Int) 200 = true) := by
      by_cases h : 40 < l.length
      · exact .inl (cm_gt (by omega))
      · exact .inr ⟨cm_gt' (by omega), cm_gt (by omega)⟩
    rcases c0 with c0 | ⟨c0, c00⟩
    all_goals repeat (first | refine C.seq ?_ | refine C.region ?_ | refine L.nil ?_ | refine D.seq ?_ | refine L.move (k := ?_) | refine L.assign (k := ?_) | refine L.cm (c := ?_) | refine C.yes (h1 := ?_) | refine C.no (h1 := ?_) | refine L.pickT (k := ?_) | refine L.pickF (k := ?_) | refine L.want (k := ?_) | refine L.pass (k := ?_) | refine L.not (c := ?_) | refine L.lenS (c := ?_) | refine L.lenV (c := ?_) | refine C.ret ?_ | refine D.thenRet ?_ | refine C.skip ?_ | refine L.callQ (lives_S) (k := ?_))
    all_goals (refine D.ret (vs := [_]) (RV.tmp rfl RV.nil) ?_; intro w' hw; exact Post.mk (is := []) hw List.nodup_nil rfl ⟨rfl, rfl⟩)
  have c0 : cm .gtr (l.length : Int) 40 = false := cm_gt' (by omega)
  have c00 : cm .gtr (code.size : Int) 200 = false := cm_gt' (by omega)
  have hAll := rall_arg hw (by omega)
  have hos := outs_size l
  obtain ⟨c, hcs, hcase⟩ : ∃ c : ByteArray, c.size ≤ 440 ∧ ((cm .eql (errOf (allOk l)) 0 = true ∧ c = outs l) ∨ (cm .eql (errOf (allOk l)) 0 = false ∧ c = code)) := by
    cases allOk l with
    | true => exact ⟨outs l, by omega, .inl ⟨rfl, rfl⟩⟩
    | false => exact ⟨code, by omega, .inr ⟨rfl, rfl⟩⟩
  obtain ⟨R, hR⟩ : ∃ R, rows (bytesOf c) 0 = R := ⟨_, rfl⟩
  obtain ⟨e, he⟩ : ∃ e, (if endOf R < c.size then (rdD ((bytesOf c).drop (endOf R))).2.2 else 0) = e := ⟨_, rfl⟩
  have hL := lines_S c (by omega) R e hR he
  obtain ⟨⟨X, f⟩, hX⟩ : ∃ Z, linesM R c.size e = Z := ⟨_, rfl⟩
  rw [hX] at hL
  simp only at hL
  have hback := fun hf : f = 0 => code_back hR he (by omega) (by rw [hX, hf])
  have hbad := fun hf : f ≠ 0 => linesM_bad hX hf
  clear hX he hR
  have hpre : ∀ w', At w (keys []) [] w' → Below w.heap.size w w' := fun w' h => (show Keeps [] w w' from h.keeps).below
  by_cases hf : f ≠ 0
  · have hX0 := hbad hf
    subst hX0
    have d3 : cm .neq f 0 = true := cm_ne hf
    clear hback hbad
    rcases hcase with ⟨d1, d2⟩ | ⟨d1, d2⟩
    · rw [← d2] at hAll
      repeat (first | refine C.seq ?_ | refine C.region ?_ | refine L.nil ?_ | refine D.seq ?_ | refine L.move (k := ?_) | refine L.assign (k := ?_) | refine L.cm (c := ?_) | refine L.extract (c := ?_) | refine C.yes (h1 := ?_) | refine C.no (h1 := ?_) | refine L.pickF (k := ?_) | refine L.want (k := ?_) | refine L.not (c := ?_) | refine L.lenS (c := ?_) | refine L.lenV (c := ?_) | refine C.ret ?_ | refine D.thenRet ?_ | refine C.skip ?_ | refine D.seqR (h := ?_) | refine L.callQ (lives_S) (k := ?_) | refine L.callQ hAll (hpre := hpre) (k := ?_) | (refine L.callO hL (G := fun u => [u, .int .i64 f]) (k := ?_); intro y w1 h1 r1) | refine L.lenR r1.1 (c := ?_))
      (refine D.ret (vs := [_]) (RV.tmp rfl RV.nil) ?_; intro w' hw; exact Post.mk (is := []) (At.back h1 hw) List.nodup_nil rfl ⟨rfl, rfl⟩)
    · rw [← d2] at c00 ⊢
      repeat (first | refine C.seq ?_ | refine C.region ?_ | refine L.nil ?_ | refine D.seq ?_ | refine L.move (k := ?_) | refine L.assign (k := ?_) | refine L.cm (c := ?_) | refine L.extract (c := ?_) | refine C.yes (h1 := ?_) | refine C.no (h1 := ?_) | refine L.pickF (k := ?_) | refine L.want (k := ?_) | refine L.not (c := ?_) | refine L.lenS (c := ?_) | refine L.lenV (c := ?_) | refine C.ret ?_ | refine D.thenRet ?_ | refine C.skip ?_ | refine D.seqR (h := ?_) | refine L.callQ (lives_S) (k := ?_) | refine L.callQ hAll (hpre := hpre) (k := ?_) | (refine L.callO hL (G := fun u => [u, .int .i64 f]) (k := ?_); intro y w1 h1 r1) | refine L.lenR r1.1 (c := ?_))
      (refine D.ret (vs := [_]) (RV.tmp rfl RV.nil) ?_; intro w' hw; exact Post.mk (is := []) (At.back h1 hw) List.nodup_nil rfl ⟨rfl, rfl⟩)
  obtain rfl : f = 0 := by omega
  obtain ⟨hb1, hb2, hb3, hb4⟩ := hback rfl
  clear hback hbad
  have hBy := fun u => lbytes_S X (by omega) hb3 u
  simp only [hb1] at hBy
  rcases hcase with ⟨d1, d2⟩ | ⟨d1, d2⟩
  all_goals
    first
      | rw [← d2] at hAll
      | rw [← d2] at c00 ⊢
  all_goals
    repeat (first | refine C.seq ?_ | refine C.region ?_ | refine L.nil ?_ | refine D.seq ?_ | refine L.move (k := ?_) | refine L.assign (k := ?_) | refine L.cm (c := ?_) | refine L.extract (c := ?_) | refine C.yes (h1 := ?_) | refine C.no (h1 := ?_) | refine L.pickF (k := ?_) | refine L.want (k := ?_) | refine L.not (c := ?_) | refine L.lenS (c := ?_) | refine L.lenV (c := ?_) | refine C.block ?_ | refine C.skip ?_ | refine D.seqR (h := ?_) | refine L.callQ (lives_S) (k := ?_) | refine L.callQ hAll (hpre := hpre) (k := ?_) | (refine L.callO hL (G := fun u => [u, .int .i64 0]) (k := ?_); intro y w1 h1 r1) | refine L.callQ (hBy _) (hpre := fun w hw => r1.at hw) (k := ?_))
  all_goals
    refine C.loop (α := Nat × Nat) (fun z => z.1 ≤ X.length ∧ z.2 ≤ z.1 ∧ labsOK X z.2 (X.drop z.1)) (fun z => [(1, .string c), (7, osV X.length y), (9, .string c), (10, .int .i64 0), (11, .int .i64 (z.2 : Int)), (12, .int .i64 (z.1 : Int))]) (fun _ => []) (fun z => X.length - z.1) (0, 0) (fun a w hs => hs.lessE rfl (lk_cons rfl (lk_cons rfl (lk_cons rfl (lk_cons rfl (lk_cons rfl (lk_cons rfl (fun _ _ h => lk_nil h)))))))) ⟨Nat.zero_le _, Nat.le_refl _, hb2⟩ ?_
    rintro ⟨i, n⟩ ⟨hi, hni, hlab⟩
    simp only at hi hni hlab ⊢
    rcases Nat.lt_or_ge i X.length with hlt | hge
    · have c1 : cm .lss (i : Int) X.length = true := cm_lo (by omega)
      have c2 : ar .add .i64 (i : Int) 1 = ((i + 1 : Nat) : Int) := wrap_nat (by omega)
      have c3 : ar .add .i64 (n : Int) 1 = ((n + 1 : Nat) : Int) := wrap_nat (by omega)
      obtain ⟨x, hx⟩ : ∃ x, X[i]? = some x := ⟨_, List.getElem?_eq_getElem hlt⟩
      have k0 : (X.flatMap Ln.vs)[i * 11 + 0]? = some (.int .i64 x.lab) := flat_get vs_len _ i x hx 0 (by decide)
      have oX := r1.2 (by omega)
      rw [drop_eq hx] at hlab
      unfold labsOK at hlab
      by_cases hz : x.lab = 0
      · rw [if_pos hz] at hlab
        have c4 : cm .eql x.lab 0 = true := cm_yes hz
        repeat (first | refine C.seq ?_ | refine C.region ?_ | refine L.nil ?_ | refine D.seq ?_ | refine L.move (k := ?_) | refine L.assign (k := ?_) | refine L.cm (c := ?_) | refine L.ar (c := ?_) | refine L.fieldAddr (c := ?_) | refine C.yes (h1 := ?_) | refine C.block ?_ | refine C.exit ?_ | refine D.thenExit ?_ | refine D.blkExit ?_ | refine C.skip ?_ | refine L.lenR r1.1 (c := ?_) | refine L.indexR r1.1 hlt (c := ?_) | refine L.loadF oX k0 (c := ?_))
        exact D.then_ fun a1 w1 hs => ⟨(i + 1, n), ⟨hlt, by show n ≤ i + 1; omega, hlab⟩, by show X.length - (i + 1) < X.length - i; omega, hs.lessE rfl (lk_cons rfl (lk_cons rfl (lk_cons rfl (lk_cons rfl (lk_cons rfl (lk_cons rfl (fun _ _ h => lk_nil h)))))))⟩
      · rw [if_neg hz] at hlab
        obtain ⟨hl1, hl2, hl3⟩ := hlab
        have c4 : cm .eql x.lab 0 = false := cm_no hz
        have c5 : cm .neq x.lab ((n + 1 : Nat) : Int) = false := cm_ne' hl1
        rw [hl1] at hl2
        repeat (first | refine C.seq ?_ | refine C.region ?_ | refine L.nil ?_ | refine D.seq ?_ | refine L.move (k := ?_) | refine L.assign (k := ?_) | refine L.cm (c := ?_) | refine L.ar (c := ?_) | refine L.fieldAddr (c := ?_) | refine C.yes (h1 := ?_) | refine C.no (h1 := ?_) | refine C.block ?_ | refine C.skip ?_ | refine L.lenR r1.1 (c := ?_) | refine L.indexR r1.1 hlt (c := ?_) | refine L.loadF oX k0 (c := ?_))
        refine C.loop (α := Nat) (fun k => k ≤ X.length) (fun k => [(1, .string c), (7, osV X.length y), (9, .string c), (10, .int .i64 0), (11, .int .i64 ((n + 1 : Nat) : Int)), (12, .int .i64 (i : Int)), (13, .bool (anyTo X ((n + 1 : Nat) : Int) k)), (14, .int .i64 (k : Int))]) (fun _ => []) (fun k => X.length - k) 0 (fun a w hs => hs.lessE rfl (lk_cons rfl (lk_cons rfl (lk_cons rfl (lk_cons rfl (lk_cons rfl (lk_cons rfl (lk_cons rfl (lk_cons rfl (fun _ _ h => lk_nil h)))))))))) (Nat.zero_le _) ?_
        intro k hk
        rcases Nat.lt_or_ge k X.length with hlt2 | hge2
        · have e1 : cm .lss (k : Int) X.length = true := cm_lo (by omega)
          have e2 : ar .add .i64 (k : Int) 1 = ((k + 1 : Nat) : Int) := wrap_nat (by omega)
          obtain ⟨q, hq⟩ : ∃ q, X[k]? = some q := ⟨_, List.getElem?_eq_getElem hlt2⟩
          have k2 : (X.flatMap Ln.vs)[k * 11 + 10]? = some (.int .i64 q.to) := flat_get vs_len _ k q hq 10 (by decide)
          have hsu := anyTo_succ (n := ((n + 1 : Nat) : Int)) hq
          cases hy : anyTo X ((n + 1 : Nat) : Int) k with
          | true =>
            rw [hy, Bool.true_or] at hsu
            repeat (first | refine C.seq ?_ | refine C.region ?_ | refine L.nil ?_ | refine D.seq ?_ | refine L.move (k := ?_) | refine L.assign (k := ?_) | refine L.cm (c := ?_) | refine L.ar (c := ?_) | refine C.yes (h1 := ?_) | refine L.pickT (k := ?_) | refine L.pass (k := ?_) | refine C.block ?_ | refine D.blkNormal ?_ | refine C.skip ?_ | refine L.lenR r1.1 (c := ?_) | refine L.indexR r1.1 hlt2 (c := ?_) | refine L.loadF oX k2 (c := ?_))
            exact D.then_ fun a1 w1 hs => ⟨k + 1, hlt2, by omega, by simp only [hsu]; exact hs.lessE rfl (lk_cons rfl (lk_cons rfl (lk_cons rfl (lk_cons rfl (lk_cons rfl (lk_cons rfl (lk_cons rfl (lk_cons rfl (fun _ _ h => lk_nil h)))))))))⟩
          | false =>
            rw [hy, Bool.false_or] at hsu
            have e3 : cm .eql q.to ((n + 1 : Nat) : Int) = anyTo X ((n + 1 : Nat) : Int) (k + 1) := hsu.symm
            repeat (first | refine C.seq ?_ | refine C.region ?_ | refine L.nil ?_ | refine D.seq ?_ | refine L.move (k := ?_) | refine L.assign (k := ?_) | refine L.cm (c := ?_) | refine L.ar (c := ?_) | refine L.fieldAddr (c := ?_) | refine C.yes (h1 := ?_) | refine L.pickF (k := ?_) | refine L.want (k := ?_) | refine C.block ?_ | refine D.blkNormal ?_ | refine C.skip ?_ | refine L.lenR r1.1 (c := ?_) | refine L.indexR r1.1 hlt2 (c := ?_) | refine L.loadF oX k2 (c := ?_))
            exact D.then_ fun a1 w1 hs => ⟨k + 1, hlt2, by omega, hs.lessE rfl (lk_cons rfl (lk_cons rfl (lk_cons rfl (lk_cons rfl (lk_cons rfl (lk_cons rfl (lk_cons rfl (lk_cons rfl (fun _ _ h => lk_nil h)))))))))⟩
        · have e1 : cm .lss (k : Int) X.length = false := cm_lo' (by omega)
          have hall : anyTo X ((n + 1 : Nat) : Int) k = true := by
            obtain ⟨z, hz1, hz2⟩ := hl2
            unfold anyTo
            rw [List.take_of_length_le hge2, List.any_eq_true]
            exact ⟨z, hz1, by rw [hz2]; simp⟩
          rw [hall]
          repeat (first | refine C.seq ?_ | refine C.region ?_ | refine L.nil ?_ | refine D.seq ?_ | refine L.move (k := ?_) | refine L.assign (k := ?_) | refine L.cm (c := ?_) | refine L.ar (c := ?_) | refine L.fieldAddr (c := ?_) | refine C.no (h1 := ?_) | refine L.pickF (k := ?_) | refine L.want (k := ?_) | refine L.not (c := ?_) | refine D.blkNormal ?_ | refine C.exit ?_ | refine D.thenExit ?_ | refine D.blkExit ?_ | refine C.skip ?_ | refine L.lenR r1.1 (c := ?_) | refine L.indexR r1.1 hlt (c := ?_) | refine L.loadF oX k0 (c := ?_))
          exact D.then_ fun a1 w1 hs => ⟨(i + 1, n + 1), ⟨hlt, by show n + 1 ≤ i + 1; omega, hl3⟩, by show X.length - (i + 1) < X.length - i; omega, hs.lessE rfl (lk_cons rfl (lk_cons rfl (lk_cons rfl (lk_cons rfl (lk_cons rfl (lk_cons rfl (fun _ _ h => lk_nil h)))))))⟩
    · have c1 : cm .lss (i : Int) X.length = false := cm_lo' (by omega)
      repeat (first | refine L.strEq (z := true) (hz := seqS _) (c := ?_) | refine C.seq ?_ | refine C.region ?_ | refine L.nil ?_ | refine D.seq ?_ | refine L.move (k := ?_) | refine L.assign (k := ?_) | refine L.cm (c := ?_) | refine C.no (h1 := ?_) | refine L.pickT (k := ?_) | refine L.want (k := ?_) | refine C.ret ?_ | refine C.exit ?_ | refine D.thenExit ?_ | refine D.blkExit ?_ | refine D.seqR (h := ?_) | refine L.lenR r1.1 (c := ?_))
      (refine D.ret (vs := [_]) (RV.tmp rfl RV.nil) ?_; intro w' hw; exact Post.mk (is := []) (At.back h1 hw) List.nodup_nil rfl ⟨rfl, rfl⟩)
theorem _root_.Go.Proofs.Ytbcaelhchmoigaa.lback_walk (v : Value) (l : List Ins) (code : ByteArray) (w : World) (h : Insts w v l) :
    Calls Try.prog 8 #[v, .string code] w fun e w' => e = .returned (.bool true) ∧ Below w.heap.size w w' := (back_S v l code).true w h
end Go.Proofs.Ytbcaelhchmoigaa.Ly
