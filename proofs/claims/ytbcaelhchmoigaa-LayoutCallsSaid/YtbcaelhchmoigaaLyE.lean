import Derived.Test.YtbcaelhchmoigaaLyD
import Derived.Test.YtbcaelhchmoigaaSepTq
set_option linter.unusedVariables false
set_option linter.unusedSimpArgs false
namespace Go.Proofs.Ytbcaelhchmoigaa.Ly
open Go Go.RowKit Calm SL
section
variable {ops : Array Oper} {Q : Exit → Act → World → Prop} {s : St} {E : Env} {M : Hp} {rest : List Oper} {d t : Nat} {pos : String} {af : Array Edge}
theorem convS (L1 : Hp) {y : OS} {L2 : Hp} {sb : ByteArray} {x : Operand} (hG : osG 1 sb.size (enc8 sb.data.toList) y) (hM : M = L1 ++ osC 5 y L2) (hn : Nat.blt d s.n = true := by exact rfl) (hx : ev E x = some (osV sb.size y) := by exact rfl)
    (c : L Try.prog ops Q rest s ((d, .string sb) :: E) M) : L Try.prog ops Q (⟨some d, .convert 59 9 x, t, pos, af, none⟩ :: rest) s E M :=
  L.calm (S := fun ρ => convert 59 9 (ρ x)) hn (fun _ => rfl) (fun a w hs => by
    show (convert 59 9 (a.eval x)).run Try.prog w = _
    rw [hs.ev hx]
    have h0 := hs.at_
    rw [hM] at h0
    exact conv_strS (B := 0) (own_row hG h0)) c
end
attribute [local irreducible] SL.L SL.C SL.D SL.N SL.H SL.QL SL.QW SL.QP SL.QT
instance : Byt Try.prog 5 := Byt.of (by kernel_rfl)
theorem pick_out {M B : Hp} {is : List Nat} {j : Nat} {y : Nat × Obj} (hn : (keys M).Nodup) (hj : hat M j = some y) (hp : hpick M is = some B) (hd : j ∉ is) : y.1 ∉ keys B := fun h => hd (hpick_key hn hj hp (by obtain ⟨z, hz, e⟩ := List.mem_map.1 h; exact ⟨z, hz, e⟩))
theorem pick_in {M B : Hp} {is : List Nat} (hp : hpick M is = some B) : ∀ k ∈ keys B, k ∈ keys M := fun k hk => by
  obtain ⟨z, hz, rfl⟩ := List.mem_map.1 hk
  exact List.mem_map_of_mem (hpick_mem hp z hz)
theorem wrap_i {n : Int} (h : -2000000 ≤ n ∧ n ≤ 2000000) : IntKind.i64.wrap n = n := by
  unfold IntKind.wrap
  simp [IntKind.bits, IntKind.signed]
  omega
theorem goalP_snoc (k : Int) (l : List Ln) (x : Ln) : goalP k 0 0 (l ++ [x]) = if 0 < x.lab ∧ x.lab = k then (total l : Int) else goalP k 0 0 l := by
  rw [goalP_app, Nat.zero_add]; rfl
theorem places_get {l : List Ln} {i : Nat} (h : i < l.length) : (places 0 l)[i]? = some (total (l.take i)) := by
  have e : l = l.take i ++ l.drop i := (List.take_append_drop i l).symm
  rw [List.drop_eq_getElem_cons h] at e
  generalize l[i] = x at e
  generalize l.drop (i + 1) = r at e
  have hl : (l.take i).length = i := by rw [List.length_take]; omega
  generalize l.take i = a at e hl ⊢
  subst e
  rw [places_app, List.getElem?_append_right (by rw [places_len]; omega), places_len, hl, Nat.sub_self, Nat.zero_add]; rfl
theorem nums_get {l : List Nat} {i n : Nat} (h : l[i]? = some n) : (nums l)[i * 1]? = some (.int .i64 (n : Int)) := by
  unfold nums; rw [Nat.mul_one, List.getElem?_map, h]; rfl
theorem ln_cell {l : List Ln} {i : Nat} {x : Ln} (h : l[i]? = some x) : (l.flatMap Ln.vs)[i * 11 + 10]? = some (.int .i64 x.to) ∧
    ((l.flatMap Ln.vs).drop (i * 11 + 1)).take 9 = [.int .i64 x.ins.op, .int .i64 x.ins.d, .int .i64 x.ins.s, .int .i64 x.ins.t, .int .i64 x.ins.mb, .int .i64 x.ins.mi, .int .i64 x.ins.ms, .int .i64 x.ins.md, .int .i64 x.ins.imm] ∧ i * 11 + 1 + 9 ≤ (l.flatMap Ln.vs).length := by
  obtain ⟨h1, h2⟩ := ln_at h
  refine ⟨?_, ?_, by omega⟩
  · have e := congrArg (fun z => z[10]?) h1
    simp only [List.getElem?_take, List.getElem?_drop] at e
    simpa using e
  · have e := congrArg (fun z => (z.drop 1).take 9) h1
    simp only [List.drop_take, List.drop_drop, List.take_take] at e
    simpa using e
theorem goal_le (k : Int) : ∀ (l : List Ln) (a : Nat) (d : Int), 0 ≤ d → d ≤ a + total l → 0 ≤ goalP k a d l ∧ goalP k a d l ≤ a + total l
  | [], a, d, h0, h1 => ⟨h0, h1⟩
  | x :: l, a, d, h0, h1 => by
    rw [goalP, total_cons] at *
    have := goal_le k l (a + x.size) (if 0 < x.lab ∧ x.lab = k then (a : Int) else d) (by split <;> omega) (by split <;> omega)
    omega
theorem lgo_step (g : Int → Int) (a : Nat) (x : Ln) (r : List Ln) (acc : ByteArray) : lgo g a (x :: r) acc = if x.size = 0 then lgo g a r acc else
      if (fix (g x.to) a x).chk = true then lgo g (a + x.size) r (acc ++ (fix (g x.to) a x).out) else (⟨#[]⟩, 2) := rfl
theorem enc8_cat (a b : ByteArray) : enc8 a.data.toList ++ enc8 b.data.toList = enc8 (a ++ b).data.toList := by rw [← enc8_app]; simp
theorem fix_eq (g : Int) (a : Nat) (x : Ln) (h : x.ins.jump = true) : fix g a x = ⟨x.ins.op, x.ins.d, x.ins.s, x.ins.t, x.ins.mb, x.ins.mi, x.ins.ms, x.ins.md, g - a - x.size⟩ := by unfold fix; rw [if_pos h]
theorem fix_no (g : Int) (a : Nat) (x : Ln) (h : x.ins.jump = false) : fix g a x = x.ins := by unfold fix; rw [if_neg (by simp [h])]
abbrev bM (b9 b6 b4 b3 b2 b1 m : Nat) (v z : Value) (t : ByteArray) (e : Int) (r : Hp) (y : OS × ByteArray) : Hp :=
  (b9, ob [osV y.2.size y.1] 59) :: (b6, ob [.map (some m)] 54) :: (b4, ob [z] 27) :: (b3, ob [.int .i64 e] 24) :: (b2, ob [.string t] 9) :: (b1, ob [v] 22) :: r
set_option maxRecDepth 100000 in
set_option maxHeartbeats 16000000 in
theorem lbytes_S (l : List Ln) (hl : l.length ≤ 1000) (hok : ∀ x ∈ l, x.ok) (v : Value) : Ctr Try.prog 12 [v] [] (fun w => Rd w [] v l.length (l.flatMap Ln.vs)) (is (.tuple #[.string (lbytes l).1, .int .i64 (lbytes l).2]) []) := by
  refine Ctr.enterM Try.func12 Try.ntmps12 rfl rfl (fun w hr => ?_)
  obtain ⟨p, cap, hv, _⟩ := hr.1
  subst hv
  have sv := hr.1
  have hrr : Rd w (keys []) (.slice p l.length cap) l.length (l.flatMap Ln.vs) := hr
  have hP := places_S l hl hok (.slice p l.length cap)
  have htl := total_le l
  unfold plc at hP
  unfold lbytes
  by_cases he : (lcheck l).2 = 0
  · rw [if_pos he]
    rw [if_pos he, he, places_len] at hP
    repeat (first | refine Af ?_ | refine Ac ?_ | refine Aa ?_ | refine Ae ?_ | refine Ad ?_ | refine Ag ?_ | refine Ah ?_ | refine Ak 2 ?_ | refine Ab 0 ?_ | refine Bd ?_ | refine Aq (fun _ => ?_) | refine L.box (c := fun _ => ?_) | refine Aj ?_ | refine L.lenV (c := ?_) | refine Ai ?_ | refine Ap ?_ | refine L.makeMap (c := fun _ => ?_) | refine Bc ?_ | (refine L.callO hP (G := fun u => [u, .int .i64 0]) (hpre := fun w hw => hr.at hw) (k := ?_); intro y w1 h1 r1) | refine Ab 0 (hc := osV_cells _ _) (ho := osV_one _ _) ?_ | refine Ab 1 (hc := osV_cells _ _) (ho := osV_one _ _) ?_ | refine Ab 2 (hc := osV_cells _ _) (ho := osV_one _ _) ?_ | refine Ab 3 (hc := osV_cells _ _) (ho := osV_one _ _) ?_ | refine Ab 4 (hc := osV_cells _ _) (ho := osV_one _ _) ?_ | refine Ab 5 (hc := osV_cells _ _) (ho := osV_one _ _) ?_ | refine Ab 6 (hc := osV_cells _ _) (ho := osV_one _ _) ?_ | refine Ab 7 (hc := osV_cells _ _) (ho := osV_one _ _) ?_ | refine Ak 5 ?_ | refine Ak 6 ?_ | refine Ak 7 ?_ | refine Al 5 ?_ | refine Al 6 ?_ | refine Al 7 ?_ | refine Ab 5 ?_ | refine Ab 6 ?_ | refine Ab 7 ?_)
    rename_i b1 b2 b3 b4 m b6
    have rl := hr.back h1
    have spl := r1.1
    clear hP
    generalize (lcheck l).1 = q0
    refine C.loop (α := Nat × Obj) (fun x => x.1 ≤ l.length ∧ MapF x.2 (fun k => goalP k 0 0 (l.take x.1))) (fun x => [(1, .pointer (some ⟨b1, 0, none⟩)), (2, .pointer (some ⟨b2, 0, none⟩)), (3, .pointer (some ⟨b3, 0, none⟩)), (4, .pointer (some ⟨b4, 0, none⟩)), (6, .pointer (some ⟨b6, 0, none⟩)), (24, .slice p l.length cap), (25, .int .i64 l.length), (26, .int .i64 (x.1 : Int))])
      (fun x => [(m, x.2), (b6, ob [.map (some m)] 54), (b4, ob [osV l.length y] 27), (b3, ob [.int .i64 0] 24), (b2, ob [.string ⟨#[]⟩] 9), (b1, ob [.slice p l.length cap] 22)]) (fun x => l.length - x.1) (0, .map #[] 0)
      (fun a w hs => hs.less (is := [1, 0, 2, 3, 4, 5]) (by decide) rfl (lk_cons rfl (lk_cons rfl (lk_cons rfl (lk_cons rfl (lk_cons rfl (lk_cons rfl (lk_cons rfl (lk_cons rfl (fun _ _ h => lk_nil h)))))))))) ⟨Nat.zero_le _, MapF.nil⟩ ?_
    rintro ⟨i, o⟩ ⟨hi, hF⟩
    simp only at hi hF ⊢
    rcases Nat.lt_or_ge i l.length with hlt | hge
    · have c1 : cm .lss (i : Int) l.length = true := cm_lo (by omega)
      have c2 : ar .add .i64 (i : Int) 1 = ((i + 1 : Nat) : Int) := wrap_nat (by omega)
      obtain ⟨x, hx⟩ : ∃ x, l[i]? = some x := ⟨_, List.getElem?_eq_getElem hlt⟩
      obtain ⟨kc, kl⟩ := ln_at hx
      have oL := rl.2 (by omega)
      by_cases hp : 0 < x.lab
      · have c3 : cm .gtr x.lab 0 = true := cm_gt hp
        repeat (first | refine Af ?_ | refine Ac ?_ | refine Aa ?_ | refine Ae ?_ | refine Ad ?_ | refine Ag ?_ | refine Ah ?_ | refine Ay ?_ | refine Ak 0 ?_ | refine Ab 0 ?_ | refine Aq (fun _ => ?_) | refine Am ?_ | refine Ai ?_ | refine Ap ?_ | refine Ba sv hlt ?_ | refine L.loadOA oL (i := i * 11) (ho := by exact rfl) (hi := kl) (hcs := kc) (c := ?_))
        rename_i b8
        have kp := nums_get (places_get hlt)
        refine C.tail (h := ?_)
        iterate 7 ((refine QT.step (v := ?_) (by exact rfl) (by exact rfl) ?_ ?_; rotate_left); repeat (first | refine Aa ?_ | refine Ad ?_ | refine Ay ?_ | refine Ak 0 ?_ | refine Ak 2 ?_ | refine Ak 3 ?_ | exact D.endsQ | refine Ba spl hlt ?_ | refine L.loadF (r1.2 (by omega)) kp (c := ?_) | exact D.endsQ))
        refine QT.last ?_
        refine L.putF 1 hF (kk := fun o' hF' => ?_)
        simp only [hset]
        repeat (first | refine Ac ?_ | refine Aa ?_ | refine Ad ?_ | refine Ao ?_ | refine Ar ?_ | refine Bc ?_)
        exact D.then_ fun a1 w1 hs => ⟨(i + 1, o'), ⟨hlt, hF'.congr (fun k => by
          rw [take_succ_eq hx, goalP_snoc]; unfold upd
          by_cases h : k = x.lab
          · rw [if_pos h, if_pos ⟨hp, h.symm⟩]
          · rw [if_neg h, if_neg (fun hh => h hh.2.symm)])⟩, by show l.length - (i + 1) < l.length - i; omega, hs.less (is := [1, 2, 3, 4, 5, 6]) (by decide) rfl (lk_cons rfl (lk_cons rfl (lk_cons rfl (lk_cons rfl (lk_cons rfl (lk_cons rfl (lk_cons rfl (lk_cons rfl (fun _ _ h => lk_nil h)))))))))⟩
      · have c3 : cm .gtr x.lab 0 = false := cm_gt' (by omega)
        repeat (first | refine Af ?_ | refine Ac ?_ | refine Aa ?_ | refine Ae ?_ | refine Ad ?_ | refine Ag ?_ | refine Ah ?_ | refine Ao ?_ | refine Ay ?_ | refine Ak 0 ?_ | refine Ab 0 ?_ | refine Aq (fun _ => ?_) | refine Am ?_ | refine Aj ?_ | refine Ai ?_ | refine Ar ?_ | refine Ap ?_ | refine Ba sv hlt ?_ | refine L.loadOA oL (i := i * 11) (ho := by exact rfl) (hi := kl) (hcs := kc) (c := ?_))
        exact D.then_ fun a1 w1 hs => ⟨(i + 1, o), ⟨hlt, hF.congr (fun k => by
          rw [take_succ_eq hx, goalP_snoc, if_neg (fun hh => hp hh.1)])⟩, by show l.length - (i + 1) < l.length - i; omega, hs.less (is := [1, 2, 3, 4, 5, 6]) (by decide) rfl (lk_cons rfl (lk_cons rfl (lk_cons rfl (lk_cons rfl (lk_cons rfl (lk_cons rfl (lk_cons rfl (lk_cons rfl (fun _ _ h => lk_nil h)))))))))⟩
    have c1 : cm .lss (i : Int) l.length = false := cm_lo' (by omega)
    rw [List.take_of_length_le hge] at hF
    clear hi hge
    repeat (first | refine Af ?_ | refine Ac ?_ | refine Aa ?_ | refine Ae ?_ | refine Ah ?_ | refine Aq (fun _ => ?_) | refine Aj ?_ | refine Ai ?_ | refine C.exit ?_ | refine Bg ?_ | refine Bh ?_ | refine Bc ?_ | refine Ak 5 ?_ | refine Ak 6 ?_ | refine Ak 7 ?_ | refine Al 5 ?_ | refine Al 6 ?_ | refine Al 7 ?_ | refine Ab 5 ?_ | refine Ab 6 ?_ | refine Ab 7 ?_ | (refine L.callP [] (sized_S l.length (.slice p l.length cap) sv) (by exact rfl) (by exact rfl) (by exact rfl) (by decide) (fun _ _ => trivial) ?_; rintro u B ⟨bs, rfl, rfl⟩; rw [hdrop_nil, List.singleton_append]))
    clear c1
    rename_i b9
    simp only [List.nil_append]
    have gl := fun k => goal_le k l 0 0 (by omega) (by omega)
    obtain ⟨g, hg⟩ : ∃ g, g = fun n => goalP n 0 0 l := ⟨_, rfl⟩
    rw [← hg]
    have hF' : MapF o g := by rw [hg]; exact hF
    have hgl : ∀ k, 0 ≤ g k ∧ g k ≤ 11000 := fun k => by rw [hg]; have := gl k; simp only; omega
    clear hF gl
    refine C.rangeO (α := Nat × Ln) (β := OS × ByteArray) (by exact rfl) (by exact rfl) encN [1, 3, 4, 5, 6, 7] (by exact rfl) (by decide) (V := fun pre x => x.1 = pre.length ∧ ∃ r, l = pre.map (·.2) ++ x.2 :: r) (S := fun xs => xs.map (·.2) = l) (Sp := fun pre => ∃ r, l = pre.map (·.2) ++ r)
      (fun w' hw' => sized1_seq l hl hok (.slice p l.length cap) w' bs (hw'.holds (bs, _) List.mem_cons_self) _ (rl.base hw' _ (fun _ h => h)) _ (pick_out (j := 0) (y := (bs, _)) hw'.nodup rfl (is := [1, 3, 4, 5, 6, 7]) rfl (by decide)) (pick_in (is := [1, 3, 4, 5, 6, 7]) rfl) List.mem_cons_self)
      (fun _ => rfl) (by exact rfl) (fun pre y9 => osG 1 y9.2.size (enc8 y9.2.data.toList) y9.1 ∧ y9.2.size ≤ pre.length * 11 ∧ ∀ r, l = pre.map (·.2) ++ r → lgo g 0 l ⟨#[]⟩ = lgo g (total (pre.map (·.2))) r y9.2)
      (fun pre y9 => bM b9 b6 b4 b3 b2 b1 m (.slice p l.length cap) (osV l.length y) ⟨#[]⟩ 0 (osC 5 y9.1 []) y9)
      (fun c _ _ => c = .ret ∧ lgo g 0 l ⟨#[]⟩ = (⟨#[]⟩, 2)) (fun _ _ y9 => bM b9 b6 b4 b3 b2 b1 m (.slice p l.length cap) (osV l.length y) ⟨#[]⟩ 2 [] y9) (fun pre y => by obtain ⟨y, _⟩ := y; rcases y with _ | ⟨_, _, _⟩ <;> rfl) (fun _ _ _ => rfl) (none, ⟨#[]⟩) ⟨osG.nil, Nat.zero_le _, fun r h => by rw [h]; rfl⟩ (by exact rfl) ?_ ?_ ?_
    · rintro lb w2 W rec pre ⟨k, x⟩ ⟨y9, acc⟩ hw2 hA ⟨hG, hS, hL⟩ ⟨hk, r, hlr⟩ hlb
      simp only at hk hlr hG hS hL
      subst hk
      have e0 := congrArg List.length hlr
      simp only [List.length_append, List.length_map, List.length_cons] at e0
      have e1 := congrArg total hlr
      rw [total_app, total_cons] at e1
      have hlt : pre.length < l.length := by omega
      have hx : l[pre.length]? = some x := by rw [hlr, List.getElem?_append_right (by simp)]; simp
      have hxo := hok x (List.mem_of_getElem? hx)
      have hL' := hL (x :: r) hlr
      rw [lgo_step] at hL'
      have htk : total (l.take pre.length) = total (pre.map (·.2)) := by
        have : l.take pre.length = pre.map (·.2) := by rw [hlr, List.take_left' (by simp)]
        rw [this]
      have kp := nums_get (places_get hlt)
      rw [htk] at kp
      obtain ⟨kt, ki, kl⟩ := ln_cell hx
      have rL := rl.round hw2 hA (hpick_mem (is := [1, 3, 4, 5, 6, 7]) rfl) hlb
      have rP := r1.round hw2 hA (hpick_mem (is := [1, 3, 4, 5, 6, 7]) rfl) hlb
      have hm := Held.round (b := m) (o := o) (by simp) hw2 hA (pick_out (j := 2) (y := (m, o)) hw2.nodup rfl (is := [1, 3, 4, 5, 6, 7]) rfl (by decide)) hlb
      have hsn : total ((pre ++ [(pre.length, x)]).map (·.2)) = total (pre.map (·.2)) + x.size := by rw [List.map_append, total_app]; rfl
      have hr' : ∀ r', l = (pre ++ [(pre.length, x)]).map (·.2) ++ r' → r' = r := fun r' h' => by rw [hlr] at h'; simpa using h'.symm
      generalize total (pre.map (·.2)) = a at *
      have oL := rL.2 (by omega)
      refine C.perm (M' := (lb, .loop rec) :: bM b9 b6 b4 b3 b2 b1 m (.slice p l.length cap) (osV l.length y) ⟨#[]⟩ 0 (osC 5 y9 []) (y9, acc)) ((List.perm_append_singleton _ _).symm) ?_
      simp only [pe, encN, List.cons_append, List.nil_append]
      by_cases hz : x.size = 0
      · rw [if_pos hz] at hL'
        have c1 : cm .eql (x.size : Int) 0 = true := cm_yes (by omega)
        repeat (first | refine Af ?_ | refine Ac ?_ | refine Aa ?_ | refine Ae ?_ | refine Ad ?_ | refine Ag ?_ | refine Ah ?_ | refine Am ?_ | refine Ai ?_ | refine C.exit ?_ | refine Bg ?_ | refine Bh ?_ | refine D.begin 0 (by exact rfl) (by simp only [hset]; rfl) (by exact rfl) ?_)
        have hQ : osG 1 acc.size (enc8 acc.data.toList) y9 ∧ acc.size ≤ (pre ++ [(pre.length, x)]).length * 11 ∧ ∀ r', l = (pre ++ [(pre.length, x)]).map (·.2) ++ r' → lgo g 0 l ⟨#[]⟩ = lgo g (total ((pre ++ [(pre.length, x)]).map (·.2))) r' acc :=
          ⟨hG, by rw [List.length_append]; simp only [List.length_cons, List.length_nil]; omega, fun r' h' => by rw [hr' r' h', hsn, hz]; exact hL'⟩
        rcases y9 with _ | ⟨p1, q1, s1⟩
        · exact D.next (none, acc) [1, 2, 3, 4, 5, 6, 0] hQ (by decide) rfl
        · exact D.next (some (p1, q1, s1), acc) [1, 2, 3, 4, 5, 6, 7, 0] hQ (by decide) rfl
      rw [if_neg hz] at hL'
      have c1 : cm .eql (x.size : Int) 0 = false := cm_no (by omega)
      have hxs := size_le x
      have hgx := hgl x.to
      have c3 : ar .sub .i64 (g x.to) (a : Int) = g x.to - a := wrap_i (by omega)
      have c4 : ar .sub .i64 (g x.to - a) (x.size : Int) = g x.to - a - x.size := wrap_i (by omega)
      obtain ⟨z, hzd⟩ : ∃ z, z = fix (g x.to) a x := ⟨_, rfl⟩
      rw [← hzd] at hL'
      have hzo : z.ok := by
        rw [hzd]; unfold fix; split
        · exact ⟨hxo.2.1.1, by show _ ≤ g x.to - a - x.size ∧ g x.to - a - x.size ≤ _; omega⟩
        · exact hxo.2.1
      have hzs : z.out.size ≤ 11 := out_size' _ _ _ _ _ _ _ _ _
      have hE := einst_S z hzo
      have hJ := jump_S x.ins hxo.2.1
      have hm1 : acc.size + z.out.size ≤ maxLen := by unfold maxLen; omega
      have hm2 : acc.size + z.out.size ≤ 140737488355328 := by omega
      have hs2 : (acc ++ z.out).size ≤ (pre ++ [(pre.length, x)]).length * 11 := by rw [List.length_append, ByteArray.size_append]; simp only [List.length_cons, List.length_nil]; omega
      have hn2 : z.chk = true → ∀ r', l = (pre ++ [(pre.length, x)]).map (·.2) ++ r' → lgo g 0 l ⟨#[]⟩ = lgo g (total ((pre ++ [(pre.length, x)]).map (·.2))) r' (acc ++ z.out) := fun hc r' h' => by
        rw [hr' r' h', hsn, hL', if_pos hc]
      unfold insV at hJ
      cases hj : x.ins.jump with
      | false =>
        rw [hj] at hJ
        rw [show insV z = .agg #[.int .i64 x.ins.op, .int .i64 x.ins.d, .int .i64 x.ins.s, .int .i64 x.ins.t, .int .i64 x.ins.mb, .int .i64 x.ins.mi, .int .i64 x.ins.ms, .int .i64 x.ins.md, .int .i64 x.ins.imm] by rw [hzd, fix_no _ _ _ hj]; rfl] at hE
        cases hc : z.chk with
        | true =>
          rw [hc] at hE
          have c5 : cm .neq (errOf true) 0 = false := rfl
          replace hn2 := hn2 hc
          repeat (first | refine Af ?_ | refine Ac ?_ | refine Aa ?_ | refine Ae ?_ | refine Ad ?_ | refine Ag ?_ | refine Ah ?_ | refine Ay ?_ | refine Ak 2 ?_ | refine Al 0 ?_ | refine Ab 0 ?_ | refine Bd ?_ | refine Aq (fun _ => ?_) | refine Aj ?_ | refine Ai ?_ | refine Ap ?_ | refine Ak 5 ?_ | refine Ak 6 ?_ | refine Ak 7 ?_ | refine Al 5 ?_ | refine Al 6 ?_ | refine Al 7 ?_ | refine Ab 5 ?_ | refine Ab 6 ?_ | refine Ab 7 ?_ | refine D.begin 0 (by exact rfl) (by simp only [hset]; rfl) (by exact rfl) ?_ | refine Ba sv hlt ?_ | refine L.loadOA oL (i := pre.length * 11 + 1) (ho := by exact rfl) (hi := kl) (hcs := ki) (c := ?_) | refine Au (hJ) ?_ | refine Au (hE) ?_)
          refine L.appendC [_, _, _, _, _, _, _, _] (L2 := []) (y := y9) hG rfl hm1 hm2 (c := fun y' hG' _ => ?_)
          rw [enc8_cat, ← ByteArray.size_append] at hG'
          rw [← ByteArray.size_append]
          simp only [List.cons_append, List.nil_append]
          repeat (first | refine Ab 0 (hc := osV_cells _ _) (ho := osV_one _ _) ?_ | refine Ab 1 (hc := osV_cells _ _) (ho := osV_one _ _) ?_ | refine Ab 2 (hc := osV_cells _ _) (ho := osV_one _ _) ?_ | refine Ab 3 (hc := osV_cells _ _) (ho := osV_one _ _) ?_ | refine Ab 4 (hc := osV_cells _ _) (ho := osV_one _ _) ?_ | refine Ab 5 (hc := osV_cells _ _) (ho := osV_one _ _) ?_ | refine Ab 6 (hc := osV_cells _ _) (ho := osV_one _ _) ?_ | refine Ab 7 (hc := osV_cells _ _) (ho := osV_one _ _) ?_ | refine Aa ?_ | refine Ar ?_)
          rcases y' with _ | ⟨p1, q1, s1⟩
          · exact D.next (none, acc ++ z.out) [2, 3, 4, 5, 6, 7, 1] ⟨hG', hs2, hn2⟩ (by decide) rfl
          · exact D.next (some (p1, q1, s1), acc ++ z.out) [2, 3, 4, 5, 6, 7, 8, 1] ⟨hG', hs2, hn2⟩ (by decide) rfl
        | false =>
          rw [hc] at hE
          rw [hc, if_neg (by decide)] at hL'
          have c5 : cm .neq (errOf false) 0 = true := rfl
          repeat (first | refine Af ?_ | refine Ac ?_ | refine Aa ?_ | refine Ae ?_ | refine Ad ?_ | refine Ag ?_ | refine Ah ?_ | refine Ay ?_ | refine Al 0 ?_ | refine Ab 0 ?_ | refine Bd ?_ | refine Aq (fun _ => ?_) | refine Am ?_ | refine Aj ?_ | refine Ai ?_ | refine An ?_ | refine Av ?_ | refine Bb ?_ | refine Ap ?_ | refine Ak 5 ?_ | refine Ak 6 ?_ | refine Ak 7 ?_ | refine Al 5 ?_ | refine Al 6 ?_ | refine Al 7 ?_ | refine Ab 5 ?_ | refine Ab 6 ?_ | refine Ab 7 ?_ | refine D.begin 0 (by exact rfl) (by simp only [hset]; rfl) (by exact rfl) ?_ | refine Ba sv hlt ?_ | refine L.loadOA oL (i := pre.length * 11 + 1) (ho := by exact rfl) (hi := kl) (hcs := ki) (c := ?_) | refine Au (hJ) ?_ | refine Au (hE) ?_)
          exact D.nextRet (y9, acc) [2, 3, 4, 5, 6, 7, 1] ⟨rfl, hL'⟩ (by decide) rfl
      | true =>
        rw [hj] at hJ
        rw [show insV z = .agg #[.int .i64 x.ins.op, .int .i64 x.ins.d, .int .i64 x.ins.s, .int .i64 x.ins.t, .int .i64 x.ins.mb, .int .i64 x.ins.mi, .int .i64 x.ins.ms, .int .i64 x.ins.md, .int .i64 (g x.to - a - x.size)] by rw [hzd, fix_eq _ _ _ hj]; rfl] at hE
        repeat (first | refine Af ?_ | refine Ac ?_ | refine Aa ?_ | refine Ae ?_ | refine Ad ?_ | refine Ag ?_ | refine Ah ?_ | refine Ay ?_ | refine Al 0 ?_ | refine Ab 0 ?_ | refine Aq (fun _ => ?_) | refine Am ?_ | refine Aj ?_ | refine Ai ?_ | refine Ap ?_ | refine Ak 5 ?_ | refine Ak 6 ?_ | refine Ak 7 ?_ | refine Al 5 ?_ | refine Al 6 ?_ | refine Al 7 ?_ | refine Ab 5 ?_ | refine Ab 6 ?_ | refine Ab 7 ?_ | refine D.begin 0 (by exact rfl) (by simp only [hset]; rfl) (by exact rfl) ?_ | refine Ba sv hlt ?_ | refine L.loadOA oL (i := pre.length * 11 + 1) (ho := by exact rfl) (hi := kl) (hcs := ki) (c := ?_) | refine Au (hJ) ?_)
        rename_i b12
        refine C.tail (h := ?_)
        iterate 15 ((refine QT.step (v := ?_) (by exact rfl) (by exact rfl) ?_ ?_; rotate_left); repeat (first | refine Aa ?_ | refine Ad ?_ | refine Ao ?_ | refine Ay ?_ | refine Ak 3 ?_ | refine Ak 4 ?_ | exact D.endsQ | refine Ak 5 ?_ | refine Ak 6 ?_ | refine Ak 7 ?_ | refine Al 5 ?_ | refine Al 6 ?_ | refine Al 7 ?_ | refine Ab 5 ?_ | refine Ab 6 ?_ | refine Ab 7 ?_ | refine Ba sv hlt ?_ | refine Ba spl hlt ?_ | refine L.loadF (rL.2 (by omega)) kt (c := ?_) | refine L.loadF (rP.2 (by omega)) kp (c := ?_) | refine L.lookO hF' hm.1 hm.2 (c := ?_) | exact D.endsQ))
        refine QT.last ?_
        repeat (first | refine Af ?_ | refine Ac ?_ | refine Aa ?_ | refine Ae ?_ | refine Al 0 ?_ | refine Ab 0 ?_)
        simp only [List.cons_append, List.nil_append]
        cases hc : z.chk with
        | true =>
          rw [hc] at hE
          have c5 : cm .neq (errOf true) 0 = false := rfl
          replace hn2 := hn2 hc
          repeat (first | refine Af ?_ | refine Ac ?_ | refine Aa ?_ | refine Ae ?_ | refine Ad ?_ | refine Ag ?_ | refine Ah ?_ | refine Ak 2 ?_ | refine Bd ?_ | refine Aj ?_ | refine Ap ?_ | refine Bc ?_ | refine Ak 5 ?_ | refine Ak 6 ?_ | refine Ak 7 ?_ | refine Al 5 ?_ | refine Al 6 ?_ | refine Al 7 ?_ | refine Ab 5 ?_ | refine Ab 6 ?_ | refine Ab 7 ?_ | refine Au (hE) ?_)
          refine L.appendC [_, _, _, _, _, _, _, _] (L2 := []) (y := y9) hG rfl hm1 hm2 (c := fun y' hG' _ => ?_)
          rw [enc8_cat, ← ByteArray.size_append] at hG'
          rw [← ByteArray.size_append]
          simp only [List.cons_append, List.nil_append]
          repeat (first | refine Ab 0 (hc := osV_cells _ _) (ho := osV_one _ _) ?_ | refine Ab 1 (hc := osV_cells _ _) (ho := osV_one _ _) ?_ | refine Ab 2 (hc := osV_cells _ _) (ho := osV_one _ _) ?_ | refine Ab 3 (hc := osV_cells _ _) (ho := osV_one _ _) ?_ | refine Ab 4 (hc := osV_cells _ _) (ho := osV_one _ _) ?_ | refine Ab 5 (hc := osV_cells _ _) (ho := osV_one _ _) ?_ | refine Ab 6 (hc := osV_cells _ _) (ho := osV_one _ _) ?_ | refine Ab 7 (hc := osV_cells _ _) (ho := osV_one _ _) ?_ | refine Aa ?_ | refine Ar ?_)
          rcases y' with _ | ⟨p1, q1, s1⟩
          · exact D.next (none, acc ++ z.out) [2, 3, 4, 5, 6, 7, 1] ⟨hG', hs2, hn2⟩ (by decide) rfl
          · exact D.next (some (p1, q1, s1), acc ++ z.out) [2, 3, 4, 5, 6, 7, 8, 1] ⟨hG', hs2, hn2⟩ (by decide) rfl
        | false =>
          rw [hc] at hE
          rw [hc, if_neg (by decide)] at hL'
          have c5 : cm .neq (errOf false) 0 = true := rfl
          repeat (first | refine Af ?_ | refine Ac ?_ | refine Aa ?_ | refine Ae ?_ | refine Ad ?_ | refine Ag ?_ | refine Ah ?_ | refine Bd ?_ | refine Am ?_ | refine An ?_ | refine Av ?_ | refine Bb ?_ | refine Bc ?_ | refine Ak 5 ?_ | refine Ak 6 ?_ | refine Ak 7 ?_ | refine Al 5 ?_ | refine Al 6 ?_ | refine Al 7 ?_ | refine Ab 5 ?_ | refine Ab 6 ?_ | refine Ab 7 ?_ | refine Au (hE) ?_)
          exact D.nextRet (y9, acc) [2, 3, 4, 5, 6, 7, 1] ⟨rfl, hL'⟩ (by decide) rfl
    · rintro Db xs ⟨y9, acc⟩ hS ⟨hG, _, hL⟩
      have hS' : xs.map (·.2) = l := hS
      rw [hL [] (by rw [List.append_nil]; exact hS'.symm)]
      rcases y9 with _ | ⟨p1, q1, s1⟩
      · simp only [hdrop, List.cons_append, List.nil_append]
        repeat (first | refine Af ?_ | refine Ac ?_ | refine Aa ?_ | refine Ae ?_ | refine Ak 1 ?_ | refine Ab 4 ?_ | refine Ar ?_ | refine An ?_ | refine Bc ?_ | refine Ak 5 ?_ | refine Ak 6 ?_ | refine Ak 7 ?_ | refine Al 5 ?_ | refine Al 6 ?_ | refine Al 7 ?_ | refine Ab 5 ?_ | refine Ab 6 ?_ | refine Ab 7 ?_ | refine convS [_, _, _, _, _, _, _] (y := none) hG rfl (c := ?_))
        exact D.retM (vs := [.string acc, .int .i64 0]) [Db] [0] (by exact rfl) (by decide) (by exact rfl) (RV.cell1 4 rfl rfl rfl rfl (RV.cell1 3 rfl rfl rfl rfl RV.nil)) (fun w' hw => Post.mk (is := []) (At.back h1 hw) (by decide) rfl ⟨rfl, rfl⟩)
      · simp only [hdrop, List.cons_append, List.nil_append]
        repeat (first | refine Af ?_ | refine Ac ?_ | refine Aa ?_ | refine Ae ?_ | refine Ak 1 ?_ | refine Ab 4 ?_ | refine Ar ?_ | refine An ?_ | refine Bc ?_ | refine Ak 5 ?_ | refine Ak 6 ?_ | refine Ak 7 ?_ | refine Al 5 ?_ | refine Al 6 ?_ | refine Al 7 ?_ | refine Ab 5 ?_ | refine Ab 6 ?_ | refine Ab 7 ?_ | refine convS [_, _, _, _, _, _, _] (y := some (p1, q1, s1)) hG rfl (c := ?_))
        exact D.retM (vs := [.string acc, .int .i64 0]) [Db] [0] (by exact rfl) (by decide) (by exact rfl) (RV.cell1 4 rfl rfl rfl rfl (RV.cell1 3 rfl rfl rfl rfl RV.nil)) (fun w' hw => Post.mk (is := []) (At.back h1 hw) (by decide) rfl ⟨rfl, rfl⟩)
    · rintro Db c pre ⟨y9, acc⟩ _ ⟨rfl, hx⟩
      rw [hx]
      simp only [hdrop, List.cons_append, List.nil_append]
      repeat (first | refine An ?_ | refine Av ?_ | refine Bb ?_)
      exact D.retM (vs := [.string ⟨#[]⟩, .int .i64 2]) [Db] [0] (by exact rfl) (by decide) (by exact rfl) (RV.cell1 4 rfl rfl rfl rfl (RV.cell1 3 rfl rfl rfl rfl RV.nil)) (fun w' hw => Post.mk (is := []) (At.back h1 hw) (by decide) rfl ⟨rfl, rfl⟩)
  · rw [if_neg he]
    rw [if_neg he] at hP
    generalize (lcheck l).2 = e at hP he
    have c1 : cm .neq e 0 = true := cm_ne he
    repeat (first | refine Af ?_ | refine Ac ?_ | refine Aa ?_ | refine Ae ?_ | refine Ad ?_ | refine Ag ?_ | refine Ah ?_ | refine Ak 2 ?_ | refine Ab 1 ?_ | refine Ab 2 ?_ | refine Bd ?_ | refine Aq (fun _ => ?_) | refine L.box (c := fun _ => ?_) | refine Am ?_ | refine An ?_ | refine Av ?_ | refine Bc ?_ | (refine L.callO hP (G := fun u => [u, .int .i64 e]) (hpre := fun w hw => hr.at hw) (k := ?_); intro y w1 h1 r1) | refine Ab 0 (hc := osV_cells _ _) (ho := osV_one _ _) ?_ | refine Ab 1 (hc := osV_cells _ _) (ho := osV_one _ _) ?_ | refine Ab 2 (hc := osV_cells _ _) (ho := osV_one _ _) ?_ | refine Ab 3 (hc := osV_cells _ _) (ho := osV_one _ _) ?_ | refine Ab 4 (hc := osV_cells _ _) (ho := osV_one _ _) ?_ | refine Ab 5 (hc := osV_cells _ _) (ho := osV_one _ _) ?_ | refine Ab 6 (hc := osV_cells _ _) (ho := osV_one _ _) ?_ | refine Ab 7 (hc := osV_cells _ _) (ho := osV_one _ _) ?_)
    exact D.retM (vs := [.string ⟨#[]⟩, .int .i64 e]) [] [] (by exact rfl) (by decide) (by exact rfl) (RV.cell1 2 rfl rfl rfl rfl (RV.cell1 1 rfl rfl rfl rfl RV.nil)) (fun w' hw => Post.mk (is := []) (At.back h1 hw) (by decide) rfl ⟨rfl, rfl⟩)
end Go.Proofs.Ytbcaelhchmoigaa.Ly
