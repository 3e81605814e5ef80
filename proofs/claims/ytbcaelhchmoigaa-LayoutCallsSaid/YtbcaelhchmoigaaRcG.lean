import Derived.Test.YtbcaelhchmoigaaRcF
namespace Go.Proofs.Ytbcaelhchmoigaa
open Go.RowKit Calm SL
attribute [local irreducible] SL.L SL.C SL.D SL.N SL.H
theorem sliceG_map {pre : List (Nat × Ins)} {y : Option (Nat × List Value × Nat)} (h : sliceG 9 (fun x : Nat × Ins => cells9 x.2) pre y) : sliceG 9 cells9 (pre.map (·.2)) y := by
  rcases y with _ | ⟨b0, l0, cap⟩
  · obtain rfl : pre = [] := h
    rfl
  · obtain ⟨f1, f2, f3, f4⟩ := h
    exact ⟨f1, by simpa using f2, f3, by rw [List.length_map, f4, List.flatMap_map]⟩
set_option maxHeartbeats 4000000 in
theorem all7_S (code : ByteArray) (hl : code.size ≤ 1000000) : Ctr Try.prog 40 [.string code] [] tt (fun v B => ∃ y : Option (Nat × List Value × Nat), sliceG 9 cells9 ((rows (bytesOf code) 0).map (·.2)) y ∧
    v = .tuple #[sliceV ((rows (bytesOf code) 0).map (·.2)) y, .int .i64 (endOf (rows (bytesOf code) 0)), .int .i64 (if endOf (rows (bytesOf code) 0) < code.size then (rdD ((bytesOf code).drop (endOf (rows (bytesOf code) 0)))).2.2 else 0)] ∧ B = sliceM 35 y) := by
  refine Ctr.enter Try.func40 Try.ntmps40 rfl rfl (fun w _ => ?_)
  repeat (first | refine Af ?_ | refine Ac ?_ | refine Aa ?_ | refine Ae ?_ | refine Ag ?_ | refine Ai ?_)
  refine C.loop (α := List (Nat × Ins) × Nat × Option (Nat × List Value × Nat)) (fun x => sliceG 9 (fun z : Nat × Ins => cells9 z.2) x.1 x.2.2 ∧ x.2.1 ≤ code.size ∧ endOf x.1 = x.2.1 ∧ x.1.length ≤ x.2.1 ∧ rows (bytesOf code) 0 = x.1 ++ rows ((bytesOf code).drop x.2.1) x.2.1)
    (fun x => [(0, .string code), (5, sliceV x.1 x.2.2), (6, .int .i64 x.2.1)]) (fun x => sliceM 35 x.2.2) (fun x => code.size - x.2.1) ([], 0, none)
    (fun a w hs => hs.lessE rfl (lk_cons rfl (lk_cons rfl (lk_cons rfl (fun _ _ h => lk_nil h))))) ⟨rfl, Nat.zero_le _, rfl, Nat.le_refl _, by simp⟩ ?_
  rintro ⟨pre, a, y⟩ ⟨hG, ha, he, hn, hr⟩
  simp only at hG ha he hn hr ⊢
  have hGm := sliceG_map hG
  rcases Nat.lt_or_ge a code.size with hlt | hge
  · have hc : cm .lss (a : Int) code.size = true := cm_lo (by omega)
    have hne : (bytesOf code).drop a ≠ [] := by
      intro e
      have := congrArg List.length e
      rw [List.length_drop, bytesOf_length] at this
      simp at this; omega
    have hi := rinst7_S code a hlt hl
    by_cases he2 : (rdD ((bytesOf code).drop a)).2.2 = 0
    · obtain ⟨hp1, hp2⟩ := rd_pos (bytes_byte code a) he2
      have hlen := rd_len (bytes_byte code a) he2
      have hrow : rows ((bytesOf code).drop a) a = (a, (rdD ((bytesOf code).drop a)).1) :: rows ((bytesOf code).drop (a + (rdD ((bytesOf code).drop a)).2.1)) (a + (rdD ((bytesOf code).drop a)).2.1) := by
        rw [rows, dif_pos ⟨hne, hp1, he2⟩, List.drop_drop]
      rw [hrow] at hr
      rw [he2] at hi
      rw [List.length_drop, bytesOf_length] at hp2
      generalize rdD ((bytesOf code).drop a) = X at *
      obtain ⟨x, n, e⟩ := X
      simp only at hi hr hp1 hp2 hlen
      have hnn : cm .neq (0 : Int) 0 = false := rfl
      have hw : ar .add .i64 (a : Int) n = ((a + n : Nat) : Int) := by
        exact wrap_nat (by omega)
      rcases y with _ | ⟨b0, l0, cap⟩
      · rw [show sliceV pre none = .slice none 0 0 from rfl, show sliceM 35 none = [] from rfl]
        repeat (first | refine Af ?_ | refine Ac ?_ | refine Aa ?_ | refine Ae ?_ | refine Ad ?_ | refine Ag ?_ | refine Ah ?_ | refine Ao ?_ | refine Al 0 ?_ | refine Ab 0 ?_ | refine Bd ?_ | refine Aq (fun _ => ?_) | refine Am ?_ | refine Aj ?_ | refine L.lenS (c := ?_) | refine Ai ?_ | refine Ar ?_ | refine Ap ?_ | refine L.buildS (c := fun _ => ?_) | refine L.callQ hi (by exact rfl) (by exact rfl) (fun _ _ => trivial) ?_ | refine L.buildS (by exact rfl) (by exact rfl) (by exact rfl) (by exact rfl) (by exact rfl) (by exact rfl) (by exact rfl) (by simp only [List.flatMap_cons, List.flatMap_nil, cl, Value.cells, List.append_nil]; rfl) (fun _ => ?_) | (refine L.append1N 0 (by exact rfl) (by exact rfl) (by exact rfl) (by exact rfl) (by exact rfl) (by exact rfl) (by exact rfl) ?_; intro b1 l1 cap1 g1 g2 g3 g4))
        obtain rfl : pre = [] := hG
        refine D.then_ fun a1 w1 hs => ⟨([(a, x)], a + n, some (b1, l1, cap1)), ⟨⟨g1, g2, g3, ?_⟩, ?_, ?_, ?_, ?_⟩, ?_, ?_⟩
        · show l1.take (1 * 9) = _; rw [g4]; rfl
        · show a + n ≤ code.size; omega
        · show a + x.enc.length = a + n; omega
        · show 1 ≤ a + n; omega
        · simpa using hr
        · show code.size - (a + n) < code.size - a; omega
        · exact hs.less (is := [0]) (by decide) rfl (lk_cons rfl (lk_cons rfl (lk_cons rfl (fun _ _ h => lk_nil h))))
      · rw [show sliceV pre (some (b0, l0, cap)) = .slice (some ⟨b0, 0, none⟩) pre.length cap from rfl, show sliceM 35 (some (b0, l0, cap)) = [(b0, ob l0 35)] from rfl]
        obtain ⟨f1, f2, f3, f4⟩ := hG
        have f5 : pre.length + 1 ≤ maxLen := by unfold maxLen; omega
        repeat (first | refine Af ?_ | refine Ac ?_ | refine Aa ?_ | refine Ae ?_ | refine Ad ?_ | refine Ag ?_ | refine Ah ?_ | refine Ao ?_ | refine Al 0 ?_ | refine Ab 0 ?_ | refine Bd ?_ | refine Aq (fun _ => ?_) | refine Am ?_ | refine Aj ?_ | refine L.lenS (c := ?_) | refine Ai ?_ | refine Ar ?_ | refine Ap ?_ | refine Bc ?_ | refine L.buildS (c := fun _ => ?_) | refine L.callQ hi (by exact rfl) (by exact rfl) (fun _ _ => trivial) ?_ | refine L.buildS (by exact rfl) (by exact rfl) (by exact rfl) (by exact rfl) (by exact rfl) (by exact rfl) (by exact rfl) (by simp only [List.flatMap_cons, List.flatMap_nil, cl, Value.cells, List.append_nil]; rfl) (fun _ => ?_) | (refine L.append1 2 0 (by exact rfl) (by exact rfl) (by exact rfl) (by exact rfl) (by exact rfl) f1 f2 f3 (by exact rfl) (by exact rfl) f5 (by omega) ?_; intro b1 l1 cap1 g1 g2 g3 g4; simp only [hrep]))
        refine D.then_ fun a1 w1 hs => ⟨(pre ++ [(a, x)], a + n, some (b1, l1, cap1)), ⟨⟨g1, by simpa using g2, g3, ?_⟩, ?_, ?_, ?_, ?_⟩, ?_, ?_⟩
        · rw [List.length_append]; show l1.take ((pre.length + 1) * 9) = _; rw [g4, f4, List.flatMap_append]; rfl
        · show a + n ≤ code.size; omega
        · show endOf (pre ++ [(a, x)]) = a + n; rw [endOf_snoc]; simp only; omega
        · show (pre ++ [(a, x)]).length ≤ a + n; rw [List.length_append]; simp only [List.length_cons, List.length_nil]; omega
        · simpa using hr
        · show code.size - (a + n) < code.size - a; omega
        · refine hs.less (is := [2]) (by decide) rfl (lk_cons rfl (lk_cons ?_ (lk_cons rfl (fun _ _ h => lk_nil h))))
          unfold sliceV; simp only [List.length_append]; rfl
    · have hrows : rows (bytesOf code) 0 = pre := by
        rw [hr, rows, dif_neg (fun h => he2 h.2.2)]; simp
      have h4 := rd_err _ he2
      rw [h4] at hi
      have hnn : cm .neq (4 : Int) 0 = true := rfl
      rw [hrows, he, if_pos hlt, h4]
      rcases y with _ | ⟨b0, l0, cap⟩
      · rw [show sliceV pre none = .slice none 0 0 from rfl, show sliceM 35 none = [] from rfl]
        repeat (first | refine Af ?_ | refine Ac ?_ | refine Aa ?_ | refine Ae ?_ | refine Ad ?_ | refine Ag ?_ | refine Ah ?_ | refine Ab 0 ?_ | refine Bd ?_ | refine Aq (fun _ => ?_) | refine Am ?_ | refine L.lenS (c := ?_) | refine Ai ?_ | refine An ?_ | refine Av ?_ | refine Bb ?_ | refine Ap ?_ | refine L.callQ hi (by exact rfl) (by exact rfl) (fun _ _ => trivial) ?_)
        refine D.ret (vs := [.slice none 0 0, .int .i64 a, .int .i64 4]) (RV.tmp rfl (RV.tmp rfl (RV.tmp rfl RV.nil))) (fun w' hw => Post.mk (is := []) hw (by decide) rfl ⟨none, hGm, rfl, rfl⟩)
      · rw [show sliceV pre (some (b0, l0, cap)) = .slice (some ⟨b0, 0, none⟩) pre.length cap from rfl, show sliceM 35 (some (b0, l0, cap)) = [(b0, ob l0 35)] from rfl]
        repeat (first | refine Af ?_ | refine Ac ?_ | refine Aa ?_ | refine Ae ?_ | refine Ad ?_ | refine Ag ?_ | refine Ah ?_ | refine Ab 0 ?_ | refine Bd ?_ | refine Aq (fun _ => ?_) | refine Am ?_ | refine L.lenS (c := ?_) | refine Ai ?_ | refine An ?_ | refine Av ?_ | refine Bb ?_ | refine Ap ?_ | refine L.callQ hi (by exact rfl) (by exact rfl) (fun _ _ => trivial) ?_)
        refine D.ret (vs := [.slice (some ⟨b0, 0, none⟩) pre.length cap, .int .i64 a, .int .i64 4]) (RV.tmp rfl (RV.tmp rfl (RV.tmp rfl RV.nil))) (fun w' hw => Post.mk (is := [1]) hw (by decide) rfl ⟨some (b0, l0, cap), hGm, ?_, rfl⟩)
        unfold sliceV; simp only [List.length_map]; rfl
  · have hc : cm .lss (a : Int) code.size = false := cm_lo' (by omega)
    have hd : (bytesOf code).drop a = [] := List.drop_eq_nil_of_le (by rw [bytesOf_length]; omega)
    have hrows : rows (bytesOf code) 0 = pre := by
      rw [hr, hd, rows, dif_neg (fun h => h.1 rfl)]; simp
    rw [hrows, he, if_neg (by omega)]
    rcases y with _ | ⟨b0, l0, cap⟩
    · rw [show sliceV pre none = .slice none 0 0 from rfl, show sliceM 35 none = [] from rfl]
      repeat (first | refine Af ?_ | refine Ac ?_ | refine Aa ?_ | refine Ae ?_ | refine Ad ?_ | refine Ag ?_ | refine Ah ?_ | refine Aj ?_ | refine L.lenS (c := ?_) | refine An ?_ | refine C.exit ?_ | refine Bg ?_ | refine Bh ?_ | refine Bc ?_)
      refine D.ret (vs := [.slice none 0 0, .int .i64 a, .int .i64 0]) (RV.tmp rfl (RV.tmp rfl (RV.tmp rfl RV.nil))) (fun w' hw => Post.mk (is := []) hw (by decide) rfl ⟨none, hGm, rfl, rfl⟩)
    · rw [show sliceV pre (some (b0, l0, cap)) = .slice (some ⟨b0, 0, none⟩) pre.length cap from rfl, show sliceM 35 (some (b0, l0, cap)) = [(b0, ob l0 35)] from rfl]
      repeat (first | refine Af ?_ | refine Ac ?_ | refine Aa ?_ | refine Ae ?_ | refine Ad ?_ | refine Ag ?_ | refine Ah ?_ | refine Aj ?_ | refine L.lenS (c := ?_) | refine An ?_ | refine C.exit ?_ | refine Bg ?_ | refine Bh ?_ | refine Bc ?_)
      refine D.ret (vs := [.slice (some ⟨b0, 0, none⟩) pre.length cap, .int .i64 a, .int .i64 0]) (RV.tmp rfl (RV.tmp rfl (RV.tmp rfl RV.nil))) (fun w' hw => Post.mk (is := [0]) hw (by decide) rfl ⟨some (b0, l0, cap), hGm, ?_, rfl⟩)
      unfold sliceV; simp only [List.length_map]; rfl
end Go.Proofs.Ytbcaelhchmoigaa
