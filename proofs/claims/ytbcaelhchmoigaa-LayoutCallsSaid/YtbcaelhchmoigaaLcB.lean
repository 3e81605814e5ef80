import Derived.Test.YtbcaelhchmoigaaLcA
import Derived.Test.YtbcaelhchmoigaaSepTq
set_option linter.unusedVariables false
set_option linter.unusedSimpArgs false
namespace Go.Proofs.Ytbcaelhchmoigaa.Ly
open Go Go.RowKit Calm SL
attribute [local irreducible] SL.L SL.C SL.D SL.N SL.H SL.QL SL.QW SL.QP SL.QT
abbrev iV (x : Ins) : List Value := [.int .i64 x.op, .int .i64 x.d, .int .i64 x.s, .int .i64 x.t, .int .i64 x.mb, .int .i64 x.mi, .int .i64 x.ms, .int .i64 x.md, .int .i64 x.imm]
set_option maxRecDepth 100000 in
set_option maxHeartbeats 8000000 in
theorem rbytes_S (l : List Ln) (hl : l.length ≤ 1000) (hok : ∀ x ∈ l, x.ok) (v : Value) : Ctr Try.prog 23 [v] [] (fun w => Rd w [] v l.length (l.flatMap Ln.vs)) (is (.tuple #[.string (lbytes l).1, .int .i64 (lbytes l).2]) []) := by
  refine Ctr.enter Try.func23 Try.ntmps23 rfl rfl (fun w hr => ?_)
  have hP := rplaces_S l hl hok v
  have htl := total_le l
  unfold plc at hP
  unfold lbytes
  by_cases he : (lcheck l).2 = 0
  · rw [if_pos he]
    rw [if_pos he, he, places_len] at hP
    have hF := (lcheck_ok (by omega)).1 he
    have hE := firstE_each hF
    obtain ⟨g, hg⟩ : ∃ g, g = fun n => goalP n 0 0 l := ⟨_, rfl⟩
    rw [← hg]
    have hgl : ∀ n, 0 ≤ g n ∧ g n ≤ 100000 := fun n => by
      rw [hg]
      have := goal_le n l 0 0 (by omega) (by omega)
      simp only; omega
    repeat (first | refine Af ?_ | refine Ac ?_ | refine Aa ?_ | refine Ae ?_ | refine Ad ?_ | refine Ag ?_ | refine Ah ?_ | refine Bd ?_ | refine Aj ?_ | refine Ai ?_ | refine Ap ?_ | refine Bc ?_ | (refine L.callO hP (G := fun u => [u, .int .i64 0]) (hpre := fun w hw => hr.at hw) (k := ?_); intro y w1 h1 r1))
    have rl := hr.back h1
    have sl := rl.1
    have sp := r1.1
    clear hP hr
    refine C.loop (α := Nat × ByteArray) (fun z => z.1 ≤ l.length ∧ z.2.size ≤ z.1 * 11 ∧ lgo g 0 l ⟨#[]⟩ = lgo g (total (l.take z.1)) (l.drop z.1) z.2) (fun z => [(0, v), (4, osV l.length y), (6, .string z.2), (7, .int .i64 (z.1 : Int))]) (fun _ => []) (fun z => l.length - z.1) (0, ⟨#[]⟩)
      (fun a w hs => hs.lessE rfl (lk_cons rfl (lk_cons rfl (lk_cons rfl (lk_cons rfl (fun _ _ h => lk_nil h)))))) ⟨Nat.zero_le _, Nat.zero_le _, rfl⟩ ?_
    rintro ⟨i, acc⟩ ⟨hi, hs, hL⟩
    simp only at hi hs hL ⊢
    rcases Nat.lt_or_ge i l.length with hlt | hge
    · have c1 : cm .lss (i : Int) l.length = true := cm_lo (by omega)
      have c2 : ar .add .i64 (i : Int) 1 = ((i + 1 : Nat) : Int) := wrap_nat (by omega)
      obtain ⟨x, hx⟩ : ∃ x, l[i]? = some x := ⟨_, List.getElem?_eq_getElem hlt⟩
      have k0 := lab_at hx
      obtain ⟨k10, kc, kl⟩ := ln_cell hx
      have oL := rl.2 (by omega)
      have oP := r1.2 (by omega)
      have hxo := (hok x (List.mem_of_getElem? hx)).2.1
      obtain ⟨b0, hb⟩ := hE x (List.mem_of_getElem? hx)
      have htk := take_succ_total hx
      have htt : total (l.take (i + 1)) ≤ total l := by
        conv => rhs; rw [← List.take_append_drop (i + 1) l]
        rw [total_app]; omega
      rw [drop_eq hx, lgo_step] at hL
      by_cases hz : x.lab = 0
      · have c3 : cm .neq x.lab 0 = false := cm_ne' hz
        obtain ⟨f1, f2, f3, f4, f5⟩ := fix_ok (g := g) (a := total (l.take i)) hb hz (hgl _) (by omega)
        have hsz : x.size = x.ins.out.size := if_pos hz
        have hop := out_pos f1
        have hs11 := size_le x
        rw [if_neg (by omega), if_pos f1, ← htk] at hL
        obtain ⟨z, hzd⟩ : ∃ z, z = fix (g x.to) (total (l.take i)) x := ⟨_, rfl⟩
        rw [← hzd] at hL f1 f2 hop
        have hgx := hgl x.to
        have hzo : z.ok := by
          rw [hzd]; unfold fix; split
          · exact ⟨hxo.1, by show _ ≤ g x.to - (total (l.take i) : Int) - x.size ∧ g x.to - (total (l.take i) : Int) - x.size ≤ _; omega⟩
          · exact hxo
        have hI := rinst_S z hzo
        rw [f1] at hI
        have hJ := rjump_S x.ins
        have hS := rsize_S x.ins hxo
        have hm1 : acc.size + z.out.size ≤ 1000000000 := by omega
        have hs2 : (acc ++ z.out).size ≤ (i + 1) * 11 := by rw [ByteArray.size_append]; omega
        unfold insV at hJ
        cases hj : x.ins.jump with
        | false =>
          rw [hj] at hJ
          have hzx : z = x.ins := by rw [hzd]; exact fix_no _ _ _ hj
          rw [hzx] at hI hL hs2 hm1
          repeat (first | refine Af ?_ | refine Ac ?_ | refine Aa ?_ | refine Ae ?_ | refine Ad ?_ | refine Ag ?_ | refine Ah ?_ | refine Ay ?_ | refine Ab 0 ?_ | refine Aq (fun _ => ?_) | refine Am ?_ | refine Aj ?_ | refine Ai ?_ | refine Ap ?_ | refine Az sl ?_ | refine Ba sl hlt ?_ | refine L.loadF oL k0 (c := ?_) | refine L.loadOA oL (i := i * 11 + 1) (ho := by exact rfl) (hi := kl) (hcs := kc) (c := ?_))
          rename_i b8
          refine C.loop (α := Unit) (fun _ => True) (fun _ => [(0, v), (4, osV l.length y), (6, .string acc), (7, .int .i64 (i : Int)), (8, .pointer (some ⟨b8, 0, none⟩)), (9, .int .i64 0)]) (fun _ => [(b8, ob (iV x.ins) 35)]) (fun _ => 0) ()
            (fun a w hs => hs.lessE rfl (lk_cons rfl (lk_cons rfl (lk_cons rfl (lk_cons rfl (lk_cons rfl (lk_cons rfl (fun _ _ h => lk_nil h)))))))) trivial ?_
          rintro ⟨⟩ _
          have d1 : cm .lss 0 (l.length : Int) = true := cm_lo (by omega)
          repeat (first | refine Af ?_ | refine Ac ?_ | refine Aa ?_ | refine Ae ?_ | refine Ad ?_ | refine Ag ?_ | refine Ah ?_ | refine Ao ?_ | refine Al 0 ?_ | refine Bd ?_ | refine Aj ?_ | refine Be ?_ | refine Aw ?_ | refine Ar ?_ | refine C.exit ?_ | refine Bg ?_ | refine Bh ?_ | refine Az sl ?_ | refine Au (hJ) ?_ | refine Au (hI) ?_ | refine L.strAdd hm1 (c := ?_))
          exact D.then_ fun a1 w1 hs => ⟨(i + 1, acc ++ x.ins.out), ⟨hlt, hs2, hL⟩, by show l.length - (i + 1) < l.length - i; omega, hs.lessD 1 rfl (lk_cons rfl (lk_cons rfl (lk_cons rfl (lk_cons rfl (fun _ _ h => lk_nil h)))))⟩
        | true =>
          rw [hj] at hJ
          obtain ⟨_, t1, t2⟩ := ((lineE_ok hb).2 hz).2 hj
          repeat (first | refine Af ?_ | refine Ac ?_ | refine Aa ?_ | refine Ae ?_ | refine Ad ?_ | refine Ag ?_ | refine Ah ?_ | refine Ay ?_ | refine Ab 0 ?_ | refine Aq (fun _ => ?_) | refine Am ?_ | refine Aj ?_ | refine Ai ?_ | refine Ap ?_ | refine Az sl ?_ | refine Ba sl hlt ?_ | refine L.loadF oL k0 (c := ?_) | refine L.loadOA oL (i := i * 11 + 1) (ho := by exact rfl) (hi := kl) (hcs := kc) (c := ?_))
          rename_i b8
          refine C.loop (α := Nat) (fun k => k ≤ l.length ∧ cnt (l.take k) x.to = 0) (fun k => [(0, v), (4, osV l.length y), (6, .string acc), (7, .int .i64 (i : Int)), (8, .pointer (some ⟨b8, 0, none⟩)), (9, .int .i64 (k : Int))]) (fun _ => [(b8, ob (iV x.ins) 35)]) (fun k => l.length - k) 0
            (fun a w hs => hs.lessE rfl (lk_cons rfl (lk_cons rfl (lk_cons rfl (lk_cons rfl (lk_cons rfl (lk_cons rfl (fun _ _ h => lk_nil h)))))))) ⟨Nat.zero_le _, rfl⟩ ?_
          rintro k ⟨hk, h0⟩
          have hkl : k < l.length := by
            rcases Nat.lt_or_ge k l.length with h | h
            · exact h
            · rw [List.take_of_length_le h] at h0; omega
          have d1 : cm .lss (k : Int) l.length = true := cm_lo (by omega)
          have d2 : ar .add .i64 (k : Int) 1 = ((k + 1 : Nat) : Int) := wrap_nat (by omega)
          obtain ⟨q, hq⟩ : ∃ q, l[k]? = some q := ⟨_, List.getElem?_eq_getElem hkl⟩
          have q0 := lab_at hq
          have hct := cnt_take hq x.to
          by_cases hqe : q.lab = x.to
          · have d3 : cm .eql q.lab x.to = true := cm_yes hqe
            have hgq : g x.to = ((total (l.take k) : Nat) : Int) := by rw [hg, ← hqe]; exact goal_uniq hF hq (by omega)
            have pk := nums_get (places_get hkl)
            have pi := nums_get (places_get hlt)
            have hzx : z = ⟨x.ins.op, x.ins.d, x.ins.s, x.ins.t, x.ins.mb, x.ins.mi, x.ins.ms, x.ins.md, g x.to - (total (l.take i) : Int) - x.size⟩ := by rw [hzd]; exact fix_eq _ _ _ hj
            have d4 : ar .sub .i64 (total (l.take k) : Int) (total (l.take i)) = g x.to - total (l.take i) := by rw [hgq]; exact wrap_i (by omega)
            have d5 : ar .sub .i64 (g x.to - total (l.take i)) (x.ins.out.size : Int) = g x.to - (total (l.take i) : Int) - x.size := by rw [hsz]; exact wrap_i (by omega)
            have hI' : Ctr Try.prog 31 [.agg #[.int .i64 x.ins.op, .int .i64 x.ins.d, .int .i64 x.ins.s, .int .i64 x.ins.t, .int .i64 x.ins.mb, .int .i64 x.ins.mi, .int .i64 x.ins.ms, .int .i64 x.ins.md, .int .i64 (g x.to - (total (l.take i) : Int) - x.size)]] [] tt (is (.tuple #[.string z.out, .int .i64 0]) []) := by
              have h := hI
              rw [hzx] at h ⊢
              exact h
            repeat (first | refine Af ?_ | refine Ac ?_ | refine Aa ?_ | refine Ae ?_ | refine Ad ?_ | refine Ah ?_ | refine Ay ?_ | refine Al 0 ?_ | refine Am ?_ | refine Be ?_ | refine Aw ?_ | refine Ai ?_ | refine Ap ?_ | exact D.endsQ | refine QL.fin ?_ | refine C.quiet (h := ?_) | (refine QL.step (v := ?_) (by exact rfl) (by exact rfl) ?_ ?_; rotate_left) | refine Az sl ?_ | refine Ba sl hlt ?_ | refine Ba sl hkl ?_ | refine L.loadF oL q0 (c := ?_) | refine L.loadF oL k10 (c := ?_) | refine Au (hJ) ?_)
            refine C.tail (h := ?_)
            iterate 13 ((refine QT.step (v := ?_) (by exact rfl) (by exact rfl) ?_ ?_; rotate_left); repeat (first | refine Aa ?_ | refine Ad ?_ | refine Ao ?_ | refine Ay ?_ | refine Al 0 ?_ | exact D.endsQ | refine Ba sp hlt ?_ | refine Ba sp hkl ?_ | refine L.loadF oP pk (c := ?_) | refine L.loadF oP pi (c := ?_) | refine Au (hS) ?_ | exact D.endsQ))
            refine QT.last ?_
            repeat (first | refine Af ?_ | refine Ac ?_ | refine Aa ?_ | refine Ae ?_ | refine Ad ?_ | refine Ag ?_ | refine Ao ?_ | refine Al 0 ?_ | refine Ab 0 ?_ | refine Bd ?_ | refine Ar ?_ | refine C.exit ?_ | refine Bg ?_ | refine Bh ?_ | refine D.blkOther (h := ?_) | refine Au (hI') ?_ | refine L.strAdd hm1 (c := ?_))
            exact D.then_ fun a1 w1 hs => ⟨(i + 1, acc ++ z.out), ⟨hlt, hs2, hL⟩, by show l.length - (i + 1) < l.length - i; omega, hs.lessD 1 rfl (lk_cons rfl (lk_cons rfl (lk_cons rfl (lk_cons rfl (fun _ _ h => lk_nil h)))))⟩
          · have d3 : cm .eql q.lab x.to = false := cm_no hqe
            repeat (first | refine Af ?_ | refine Ac ?_ | refine Aa ?_ | refine Ae ?_ | refine Ad ?_ | refine Ag ?_ | refine Ah ?_ | refine Ao ?_ | refine Ay ?_ | refine Al 0 ?_ | refine Am ?_ | refine Aj ?_ | refine Be ?_ | refine Aw ?_ | refine Ai ?_ | refine Ar ?_ | refine Ap ?_ | exact D.endsQ | refine QL.fin ?_ | refine C.quiet (h := ?_) | (refine QL.step (v := ?_) (by exact rfl) (by exact rfl) ?_ ?_; rotate_left) | refine Az sl ?_ | refine Ba sl hlt ?_ | refine Ba sl hkl ?_ | refine L.loadF oL q0 (c := ?_) | refine L.loadF oL k10 (c := ?_) | refine Au (hJ) ?_)
            exact D.then_ fun a1 w1 hs => ⟨k + 1, ⟨hkl, by rw [hct, h0, if_neg (fun h => hqe h.symm)]⟩, by show l.length - (k + 1) < l.length - k; omega, hs.lessE rfl (lk_cons rfl (lk_cons rfl (lk_cons rfl (lk_cons rfl (lk_cons rfl (lk_cons rfl (fun _ _ h => lk_nil h)))))))⟩
      · have c3 : cm .neq x.lab 0 = true := cm_ne hz
        have hsz : x.size = 0 := if_neg hz
        rw [if_pos hsz] at hL
        have e5 : total (l.take (i + 1)) = total (l.take i) := by rw [htk, hsz]; rfl
        repeat (first | refine Af ?_ | refine Ac ?_ | refine Aa ?_ | refine Ae ?_ | refine Ad ?_ | refine Ag ?_ | refine Ah ?_ | refine Ao ?_ | refine Ay ?_ | refine Am ?_ | refine Ai ?_ | refine C.exit ?_ | refine Bg ?_ | refine Bh ?_ | refine Ap ?_ | refine Az sl ?_ | refine Ba sl hlt ?_ | refine L.loadF oL k0 (c := ?_))
        exact D.then_ fun a1 w1 hs => ⟨(i + 1, acc), ⟨hlt, by show acc.size ≤ (i + 1) * 11; omega, by rw [e5]; exact hL⟩, by show l.length - (i + 1) < l.length - i; omega, hs.lessE rfl (lk_cons rfl (lk_cons rfl (lk_cons rfl (lk_cons rfl (fun _ _ h => lk_nil h)))))⟩
    · have c1 : cm .lss (i : Int) l.length = false := cm_lo' (by omega)
      rw [List.drop_eq_nil_of_le hge] at hL
      rw [hL]
      repeat (first | refine Af ?_ | refine Ac ?_ | refine Aa ?_ | refine Ae ?_ | refine Ad ?_ | refine Ag ?_ | refine Ah ?_ | refine Aj ?_ | refine An ?_ | refine C.exit ?_ | refine Bg ?_ | refine Bh ?_ | refine Bc ?_ | refine Az sl ?_)
      (refine D.ret (vs := [.string acc, .int .i64 0]) (RV.tmp rfl (RV.tmp rfl RV.nil)) ?_; intro w' hw; exact Post.mk (is := []) (At.back h1 hw) List.nodup_nil rfl ⟨rfl, rfl⟩)
  · rw [if_neg he]
    rw [if_neg he] at hP
    generalize (lcheck l).2 = e at hP he
    have c1 : cm .neq e 0 = true := cm_ne he
    repeat (first | refine Af ?_ | refine Ac ?_ | refine Aa ?_ | refine Ae ?_ | refine Ad ?_ | refine Ag ?_ | refine Ah ?_ | refine Bd ?_ | refine Am ?_ | refine An ?_ | refine Av ?_ | refine Bc ?_ | (refine L.callO hP (G := fun u => [u, .int .i64 e]) (hpre := fun w hw => hr.at hw) (k := ?_); intro y w1 h1 r1))
    (refine D.ret (vs := [.string ⟨#[]⟩, .int .i64 e]) (RV.tmp rfl (RV.tmp rfl RV.nil)) ?_; intro w' hw; exact Post.mk (is := []) (At.back h1 hw) List.nodup_nil rfl ⟨rfl, rfl⟩)
end Go.Proofs.Ytbcaelhchmoigaa.Ly
