import Derived.Test.YtbcaelhchmoigaaLcB
import Derived.Test.YtbcaelhchmoigaaRcG
import Derived.Test.YtbcaelhchmoigaaSepTq
set_option linter.unusedVariables false
set_option linter.unusedSimpArgs false
namespace Go.Proofs.Ytbcaelhchmoigaa.Ly
open Go Go.RowKit Calm SL
attribute [local irreducible] SL.L SL.C SL.D SL.N SL.H SL.QL SL.QW SL.QP SL.QT
def tab (m : Nat) (f : Nat → Int) : List Value := (List.range m).map fun k => .int .i64 (f k)
theorem tab_len (m : Nat) (f : Nat → Int) : (tab m f).length = m := by simp [tab]
theorem tab_get {m k : Nat} (f : Nat → Int) (h : k < m) : (tab m f)[k]? = some (.int .i64 (f k)) := by simp [tab, h]
theorem tab_set {m k : Nat} (f : Nat → Int) (n : Int) (h : k < m) : (tab m f).set k (.int .i64 n) = tab m (fun j => if j = k then n else f j) := by
  refine List.ext_getElem? (fun j => ?_)
  rw [List.getElem?_set]
  by_cases hj : j < m
  · rw [tab_get _ hj, tab_get _ hj, tab_len]
    by_cases e : k = j
    · subst e; simp [h]
    · rw [if_neg e, if_neg (fun h => e h.symm)]
  · rw [List.getElem?_eq_none (l := tab m f) (by rw [tab_len]; omega), List.getElem?_eq_none (l := tab m _) (by rw [tab_len]; omega)]
    rw [if_neg (by omega)]
theorem tab_congr {m : Nat} {f g : Nat → Int} (h : ∀ k, k < m → f k = g k) : tab m f = tab m g := by
  unfold tab
  refine List.map_congr_left (fun k hk => ?_)
  rw [h k (by simpa using hk)]
theorem tab_rep (m : Nat) : List.replicate m (Value.int .i64 0) = tab m (fun _ => 0) := by
  refine List.ext_getElem? (fun j => ?_)
  by_cases hj : j < m
  · rw [tab_get _ hj, List.getElem?_replicate, if_pos hj]
  · rw [List.getElem?_eq_none (by simp; omega), List.getElem?_eq_none (by rw [tab_len]; omega)]
theorem all7O_S (code : ByteArray) (hl : code.size ≤ 1000000) (R : List (Nat × Ins)) (e : Int) (hR : rows (bytesOf code) 0 = R) (he : (if endOf R < code.size then (rdD ((bytesOf code).drop (endOf R))).2.2 else 0) = e) :
    Ctr Try.prog 40 [.string code] [] tt (fun v B => ∃ y, osG 9 R.length (R.flatMap (fun r => iV r.2)) y ∧ v = shut ((fun u => [u, .int .i64 (endOf R : Int), .int .i64 e]) (osV R.length y)) ∧ B = osC 35 y []) := by
  have h7 := all7_S code hl
  simp only [hR] at h7
  rw [he] at h7
  have hf : (R.map (·.2)).flatMap cells9 = R.flatMap (fun r => iV r.2) := by rw [List.flatMap_map]; rfl
  intro w h1 h2 h3
  refine (h7 w h1 h2 h3).mono ?_
  rintro E w' ⟨v, B, hE, ⟨y, hG, hv, hB⟩, hrest⟩
  refine ⟨v, B, hE, ⟨y, ?_, ?_, ?_⟩, hrest⟩
  · rcases y with _ | ⟨b, l, cap⟩
    · have h0 : R.map (·.2) = [] := hG
      have : R = [] := by simpa using h0
      subst this
      exact osG.nil
    · obtain ⟨g1, g2, g3, g4⟩ := hG
      rw [List.length_map] at g2 g4
      exact ⟨g1, g2, g3, by rw [← hf]; exact g4⟩
  · rw [hv]
    rcases y with _ | ⟨b, l, cap⟩
    · have h0 : R.map (·.2) = [] := hG
      have : R = [] := by simpa using h0
      subst this; rfl
    · simp only [sliceV, osV, List.length_map]; rfl
  · rw [hB]; rcases y with _ | ⟨b, l, cap⟩ <;> rfl
theorem ins_at {R : List (Nat × Ins)} {i : Nat} {r : Nat × Ins} (h : R[i]? = some r) : ((R.flatMap (fun r => iV r.2)).drop (i * 9)).take 9 = iV r.2 ∧ i * 9 + 9 ≤ (R.flatMap (fun r => iV r.2)).length := flat_at (enc := fun r : Nat × Ins => iV r.2) (fun _ => rfl) h
theorem imm_at {R : List (Nat × Ins)} {i : Nat} {r : Nat × Ins} (h : R[i]? = some r) : (R.flatMap (fun r => iV r.2))[i * 9 + 8]? = some (.int .i64 r.2.imm) := flat_get (enc := fun r : Nat × Ins => iV r.2) (n := 9) (fun _ => rfl) _ i r h 8 (by decide)
def gOK (R : List (Nat × Ins)) (g : Nat → Int) (j : Nat) : Prop := ∀ r, R[j]? = some r → (r.2.jump = false → g j = -1) ∧ (r.2.jump = true → ∃ k : Nat, k ≤ R.length ∧ g j = (k : Int) ∧ (pl R k : Int) = goalI r)
def hitF (R : List (Nat × Ins)) (i j : Nat) : Int := if 0 < hitN (R.take i) (pl R j : Int) then 1 else 0
set_option maxRecDepth 100000 in
set_option maxHeartbeats 40000000 in
theorem rlines_S (code : ByteArray) (hl : code.size ≤ 10000) (R : List (Nat × Ins)) (e : Int) (hR : rows (bytesOf code) 0 = R) (he : (if endOf R < code.size then (rdD ((bytesOf code).drop (endOf R))).2.2 else 0) = e) :
    Ctr Try.prog 24 [.string code] [] tt (fun v B => ∃ y, osG 11 (linesM R code.size e).1.length ((linesM R code.size e).1.flatMap Ln.vs) y ∧ v = shut [osV (linesM R code.size e).1.length y, .int .i64 (linesM R code.size e).2] ∧ B = osC 37 y []) := by
  have hA := all7O_S code (by omega) R e hR he
  have hRl : R.length ≤ code.size := by rw [← hR]; have := rows_length (bytesOf code) 0; rwa [bytesOf_length] at this
  have hrow : Row R := row_rows (bytes_all code) hR
  refine Ctr.enter Try.func24 Try.ntmps24 rfl rfl (fun w _ => ?_)
  by_cases hz : e ≠ 0
  · have c1 : cm .neq e 0 = true := cm_ne hz
    have hm : linesM R code.size e = ([], e) := by unfold linesM; rw [if_pos hz]
    rw [hm]
    repeat (first | refine Af ?_ | refine Ac ?_ | refine Aa ?_ | refine Ae ?_ | refine Ad ?_ | refine Ag ?_ | refine Ah ?_ | refine Bd ?_ | refine Am ?_ | refine An ?_ | refine Av ?_ | refine Bc ?_ | (refine L.callO hA (G := fun u => [u, .int .i64 (endOf R : Int), .int .i64 e]) (k := ?_); intro y w1 hB r1))
    (refine D.ret (vs := [osV 0 none, .int .i64 e]) (RV.tmp rfl (RV.tmp rfl RV.nil)) ?_; intro w' hw; exact Post.mk (is := []) (At.back hB hw) List.nodup_nil rfl ⟨none, osG.nil, rfl, rfl⟩)
  have h0 : e = 0 := by omega
  subst h0
  have hend : code.size = pl R R.length := by
    rw [pl_all (Nat.le_refl _)]
    have hee : endAt 0 R = endOf R := rfl
    obtain ⟨_, _, g3, g4, _⟩ := rows_end (bytesOf code) 0 (bytes_all code)
    rw [hR, Nat.sub_zero, bytesOf_length] at g3
    rw [hR, Nat.sub_zero] at g4
    rcases Nat.lt_or_ge (endOf R) code.size with hlt | hge
    · rw [if_pos hlt] at he
      rcases g4 with g4 | g4
      · have := congrArg List.length g4
        rw [List.length_drop, bytesOf_length] at this
        simp at this; omega
      · exact absurd he g4
    · have : endOf R ≤ code.size := g3
      omega
  have c0 : cm .neq (0 : Int) 0 = false := cm_ne' rfl
  have hn1 : ar .add .i64 (R.length : Int) 1 = ((R.length + 1 : Nat) : Int) := wrap_nat (by omega)
  have hm1 : R.length + 1 ≤ maxLen := by unfold maxLen; omega
  have hm2 : R.length ≤ maxLen := by unfold maxLen; omega
  have hb1 : 8 * (R.length + 1) ≤ 281474976710656 := by omega
  have hb2 : 8 * R.length ≤ 281474976710656 := by omega
  have hj0 := fun x : Ins => rjump_S x
  repeat (first | refine Af ?_ | refine Ac ?_ | refine Aa ?_ | refine Ae ?_ | refine Ad ?_ | refine Ag ?_ | refine Ah ?_ | refine Ao ?_ | refine Bd ?_ | refine Aj ?_ | refine Ai ?_ | refine Ap ?_ | refine Bc ?_ | (refine L.callO hA (G := fun u => [u, .int .i64 (endOf R : Int), .int .i64 0]) (k := ?_); intro y w1 hB r1) | refine L.lenR r1.1 (c := ?_) | refine L.makeZ (m := R.length + 1) (by exact rfl) hb1 hm1 (c := fun bp => ?_))
  have sr := r1.1
  clear hA
  rw [tab_rep]
  refine C.loop (α := Nat) (fun i => i ≤ R.length) (fun i => [(0, .string code), (4, osV R.length y), (7, .slice (some ⟨bp, 0, none⟩) (R.length + 1) (R.length + 1)), (8, .int .i64 (i : Int))]) (fun i => [(bp, ob (tab (R.length + 1) (fun k => if k ≤ i then (pl R k : Int) else 0)) 3)]) (fun i => R.length - i) 0
    (fun a w hs => by
      have e0 : tab (R.length + 1) (fun k => if k ≤ 0 then (pl R k : Int) else 0) = tab (R.length + 1) (fun _ => 0) := tab_congr (fun k _ => by
        by_cases hk : k ≤ 0
        · rw [if_pos hk, Nat.le_zero.1 hk]; rfl
        · rw [if_neg hk])
      rw [e0]
      exact hs.lessE rfl (lk_cons rfl (lk_cons rfl (lk_cons rfl (lk_cons rfl (fun _ _ h => lk_nil h)))))) (Nat.zero_le _) ?_
  intro i hi
  rcases Nat.lt_or_ge i R.length with hlt | hge
  · have c1 : cm .lss (i : Int) R.length = true := cm_lo (by omega)
    have c2 : ar .add .i64 (i : Int) 1 = ((i + 1 : Nat) : Int) := wrap_nat (by omega)
    obtain ⟨r, hr⟩ : ∃ r, R[i]? = some r := ⟨_, List.getElem?_eq_getElem hlt⟩
    obtain ⟨q1, q2, q3⟩ := hrow i r hr
    obtain ⟨kc, kl⟩ := ins_at hr
    have oL := r1.2 (by omega)
    have hS := rsize_S r.2 q3
    have hps := pl_succ hrow hr
    have hple := pl_le hrow (j := i + 1) (by omega)
    have c3 : ar .add .i64 (pl R i : Int) (r.2.out.size : Int) = ((pl R (i + 1) : Nat) : Int) := by rw [hps]; exact wrap_nat (by omega)
    have hil : i < R.length + 1 := by omega
    have hil1 : i + 1 < R.length + 1 := by omega
    have sp : SlV (.slice (some ⟨bp, 0, none⟩) (R.length + 1) (R.length + 1)) (R.length + 1) := SlV.mk _ _ (Nat.le_refl _)
    have e1 : sO (.slice (some ⟨bp, 0, none⟩) (R.length + 1) (R.length + 1)) + i * 1 = i := by simp [sO]
    have e2 : sO (.slice (some ⟨bp, 0, none⟩) (R.length + 1) (R.length + 1)) + (i + 1) * 1 = i + 1 := by simp [sO]
    have kx : (tab (R.length + 1) (fun k => if k ≤ i then (pl R k : Int) else 0))[i]? = some (.int .i64 (pl R i : Int)) := by rw [tab_get _ hil, if_pos (Nat.le_refl _)]
    have hsl : i + 1 < (tab (R.length + 1) (fun k => if k ≤ i then (pl R k : Int) else 0)).length := by rw [tab_len]; exact hil1
    have hset1 : (tab (R.length + 1) (fun k => if k ≤ i then (pl R k : Int) else 0)).set (i + 1) (.int .i64 ((pl R (i + 1) : Nat) : Int)) = tab (R.length + 1) (fun k => if k ≤ i + 1 then (pl R k : Int) else 0) := by
      rw [tab_set _ _ hil1]
      refine tab_congr (fun k _ => ?_)
      by_cases h1 : k = i + 1
      · subst h1; rw [if_pos rfl, if_pos (Nat.le_refl _)]
      · by_cases h2 : k ≤ i
        · rw [if_neg h1, if_pos h2, if_pos (by omega)]
        · rw [if_neg h1, if_neg h2, if_neg (by omega)]
    repeat (first | refine Af ?_ | refine Ac ?_ | refine Aa ?_ | refine Ae ?_ | refine Ad ?_ | refine Ah ?_ | refine Am ?_ | refine Ai ?_ | refine Ap ?_ | refine Az sr ?_)
    refine C.tail (h := ?_)
    iterate 14 ((refine QT.step (v := ?_) (by exact rfl) (by exact rfl) ?_ ?_; rotate_left); repeat (first | refine Aa ?_ | refine Ad ?_ | refine Ao ?_ | exact D.endsQ | refine L.loadK 0 kx e1 (c := ?_) | refine Ba sp hil ?_ | refine Ba sp hil1 ?_ | refine Ba sr hlt ?_ | refine L.loadOA oL (i := i * 9) (ho := by exact rfl) (hi := kl) (hcs := kc) (c := ?_) | refine Au (hS) ?_ | exact D.endsQ))
    refine QT.last ?_
    refine L.storeK 0 hsl e2 (c := ?_)
    rw [hset1]
    repeat (first | refine Ac ?_ | refine Aa ?_ | refine Ae ?_ | refine Ad ?_ | refine Ag ?_ | refine Ao ?_ | refine Ar ?_)
    exact D.then_ fun a1 w1 hs => ⟨i + 1, hlt, by omega, hs.lessE rfl (lk_cons rfl (lk_cons rfl (lk_cons rfl (lk_cons rfl (fun _ _ h => lk_nil h)))))⟩
  have c1 : cm .lss (i : Int) R.length = false := cm_lo' (by omega)
  have hie : i = R.length := by omega
  subst hie
  have eP : tab (R.length + 1) (fun k => if k ≤ R.length then (pl R k : Int) else 0) = tab (R.length + 1) (fun k => (pl R k : Int)) := tab_congr (fun k hk => by rw [if_pos (by omega)])
  rw [eP]
  clear eP
  have sp : SlV (.slice (some ⟨bp, 0, none⟩) (R.length + 1) (R.length + 1)) (R.length + 1) := SlV.mk _ _ (Nat.le_refl _)
  repeat (first | refine Af ?_ | refine Ac ?_ | refine Aa ?_ | refine Ae ?_ | refine Ad ?_ | refine Ag ?_ | refine Ah ?_ | refine Ao ?_ | refine Aj ?_ | refine Ai ?_ | refine C.exit ?_ | refine Bg ?_ | refine Bh ?_ | refine Az sr ?_ | refine L.makeZ (m := R.length + 1) (by exact rfl) hb1 hm1 (c := fun bh => ?_) | refine L.makeZ (m := R.length) (by exact rfl) hb2 hm2 (c := fun bg => ?_))
  have sg : SlV (.slice (some ⟨bg, 0, none⟩) R.length R.length) R.length := SlV.mk _ _ (Nat.le_refl _)
  have sh : SlV (.slice (some ⟨bh, 0, none⟩) (R.length + 1) (R.length + 1)) (R.length + 1) := SlV.mk _ _ (Nat.le_refl _)
  rw [tab_rep, tab_rep]
  have zP : ∀ k : Nat, sO (.slice (some ⟨bp, 0, none⟩) (R.length + 1) (R.length + 1)) + k * 1 = k := fun k => by simp [sO]
  have zG : ∀ k : Nat, sO (.slice (some ⟨bg, 0, none⟩) R.length R.length) + k * 1 = k := fun k => by simp [sO]
  have zH : ∀ k : Nat, sO (.slice (some ⟨bh, 0, none⟩) (R.length + 1) (R.length + 1)) + k * 1 = k := fun k => by simp [sO]
  have e00 : tab (R.length + 1) (fun _ => 0) = tab (R.length + 1) (hitF R 0) := tab_congr (fun k _ => by unfold hitF; simp [hitN])
  rw [e00]
  refine C.loop (α := Nat × (Nat → Int)) (fun z => z.1 ≤ R.length ∧ ∀ j, j < z.1 → gOK R z.2 j) (fun z => [(0, .string code), (4, osV R.length y), (7, .slice (some ⟨bp, 0, none⟩) (R.length + 1) (R.length + 1)), (9, .slice (some ⟨bg, 0, none⟩) R.length R.length), (10, .slice (some ⟨bh, 0, none⟩) (R.length + 1) (R.length + 1)), (11, .int .i64 (z.1 : Int))]) (fun z => [(bh, ob (tab (R.length + 1) (hitF R z.1)) 3), (bg, ob (tab R.length z.2) 3), (bp, ob (tab (R.length + 1) (fun k => (pl R k : Int))) 3)]) (fun z => R.length - z.1) (0, fun _ => 0)
    (fun a w hs => hs.lessE rfl (lk_cons rfl (lk_cons rfl (lk_cons rfl (lk_cons rfl (lk_cons rfl (lk_cons rfl (fun _ _ h => lk_nil h)))))))) ⟨Nat.zero_le _, fun j h => absurd h (Nat.not_lt_zero _)⟩ ?_
  rintro ⟨i, g⟩ ⟨hi, hg⟩
  simp only at hi hg ⊢
  rcases Nat.lt_or_ge i R.length with hlt | hge
  · have c1 : cm .lss (i : Int) R.length = true := cm_lo (by omega)
    have c2 : ar .add .i64 (i : Int) 1 = ((i + 1 : Nat) : Int) := wrap_nat (by omega)
    obtain ⟨r, hr⟩ : ∃ r, R[i]? = some r := ⟨_, List.getElem?_eq_getElem hlt⟩
    obtain ⟨q1, q2, q3⟩ := hrow i r hr
    obtain ⟨kc, kl⟩ := ins_at hr
    have ki := imm_at hr
    have oL := r1.2 (by omega)
    have hJ := rjump_S r.2
    unfold insV at hJ
    have hgl : i < (tab R.length g).length := by rw [tab_len]; exact hlt
    have hst := tab_set g (-1) hlt
    have hil1 : i + 1 < R.length + 1 := by omega
    have d1 : cm .lss (0 : Int) ((R.length + 1 : Nat) : Int) = true := cm_lo (by omega)
    cases hj : r.2.jump with
    | false =>
      rw [hj] at hJ
      repeat (first | refine Af ?_ | refine Ac ?_ | refine Aa ?_ | refine Ae ?_ | refine Ad ?_ | refine Ag ?_ | refine Ah ?_ | refine Am ?_ | refine Ai ?_ | refine Ap ?_ | refine L.storeK 1 hgl (zG i) (c := ?_) | refine Ba sg hlt ?_ | refine Az sr ?_ | refine Az sp ?_ | refine Az sh ?_ | refine Ba sr hlt ?_ | refine L.loadOA oL (i := i * 9) (ho := by exact rfl) (hi := kl) (hcs := kc) (c := ?_) | refine Au (hJ) ?_)
      rw [hst]
      refine C.loop (α := Unit) (fun _ => True) (fun _ => [(0, .string code), (4, osV R.length y), (7, .slice (some ⟨bp, 0, none⟩) (R.length + 1) (R.length + 1)), (9, .slice (some ⟨bg, 0, none⟩) R.length R.length), (10, .slice (some ⟨bh, 0, none⟩) (R.length + 1) (R.length + 1)), (11, .int .i64 (i : Int)), (12, .int .i64 0)]) (fun _ => [(bh, ob (tab (R.length + 1) (hitF R i)) 3), (bg, ob (tab R.length (fun j => if j = i then -1 else g j)) 3), (bp, ob (tab (R.length + 1) (fun k => (pl R k : Int))) 3)]) (fun _ => 0) ()
        (fun a w hs => hs.lessE rfl (lk_cons rfl (lk_cons rfl (lk_cons rfl (lk_cons rfl (lk_cons rfl (lk_cons rfl (lk_cons rfl (fun _ _ h => lk_nil h))))))))) trivial ?_
      rintro ⟨⟩ _
      repeat (first | refine Af ?_ | refine Ac ?_ | refine Aa ?_ | refine Ae ?_ | refine Ad ?_ | refine Ag ?_ | refine Ah ?_ | refine Ao ?_ | refine Aj ?_ | refine Be ?_ | refine Ax ?_ | refine Aw ?_ | refine Bf ?_ | refine L.lenV (c := ?_) | refine Ar ?_ | refine C.exit ?_ | refine Bg ?_ | refine Bh ?_ | refine Ap ?_ | refine Az sr ?_ | refine Az sp ?_ | refine Az sh ?_ | refine Ba sr hlt ?_ | refine L.loadOA oL (i := i * 9) (ho := by exact rfl) (hi := kl) (hcs := kc) (c := ?_) | refine Au (hJ) ?_)
      refine D.then_ fun a1 w1 hs => ⟨(i + 1, fun j => if j = i then -1 else g j), ⟨hlt, fun j hjl r' hr' => ?_⟩, by show R.length - (i + 1) < R.length - i; omega, ?_⟩
      · rcases Nat.lt_or_ge j i with h | h
        · simp only [if_neg (show ¬ j = i by omega)]; exact hg j h r' hr'
        · have : j = i := by omega
          subst this
          rw [hr] at hr'
          cases hr'
          exact ⟨fun _ => by simp, fun h => by rw [hj] at h; cases h⟩
      · have eH : tab (R.length + 1) (hitF R (i + 1)) = tab (R.length + 1) (hitF R i) := tab_congr (fun k _ => by
          have e : hitN (R.take (i + 1)) (pl R k : Int) = hitN (R.take i) (pl R k : Int) := by
            have := hitN_take hr (pl R k : Int)
            rw [if_neg (by simp [hj])] at this; omega
          unfold hitF; rw [e])
        simp only [eH]
        exact hs.lessE rfl (lk_cons rfl (lk_cons rfl (lk_cons rfl (lk_cons rfl (lk_cons rfl (lk_cons rfl (fun _ _ h => lk_nil h)))))))
    | true =>
      rw [hj] at hJ
      have hpi := pl_le hrow (j := i + 1) (by omega)
      have him := jump_imm hj
      have hsum : ar .add .i64 ((pl R (i + 1) : Nat) : Int) r.2.imm = goalI r := by
        show IntKind.i64.wrap _ = _
        rw [wrap_64 (by omega)]
        have := pl_succ hrow hr
        unfold goalI
        omega
      repeat (first | refine Af ?_ | refine Ac ?_ | refine Aa ?_ | refine Ae ?_ | refine Ad ?_ | refine Ag ?_ | refine Ah ?_ | refine Am ?_ | refine Ai ?_ | refine Ap ?_ | refine L.storeK 1 hgl (zG i) (c := ?_) | refine Ba sg hlt ?_ | refine Az sr ?_ | refine Az sp ?_ | refine Az sh ?_ | refine Ba sr hlt ?_ | refine L.loadOA oL (i := i * 9) (ho := by exact rfl) (hi := kl) (hcs := kc) (c := ?_) | refine Au (hJ) ?_)
      rw [hst]
      refine C.loop (α := Nat × (Nat → Int)) (fun z => z.1 ≤ R.length + 1 ∧ (∀ j, j < i → gOK R z.2 j) ∧ ((z.2 i = -1 ∧ ∀ k, k < z.1 → (pl R k : Int) ≠ goalI r) ∨ ∃ k : Nat, k ≤ R.length ∧ z.2 i = (k : Int) ∧ (pl R k : Int) = goalI r)) (fun z => [(0, .string code), (4, osV R.length y), (7, .slice (some ⟨bp, 0, none⟩) (R.length + 1) (R.length + 1)), (9, .slice (some ⟨bg, 0, none⟩) R.length R.length), (10, .slice (some ⟨bh, 0, none⟩) (R.length + 1) (R.length + 1)), (11, .int .i64 (i : Int)), (12, .int .i64 (z.1 : Int))])
        (fun z => [(bh, ob (tab (R.length + 1) (fun j => hitF R (if j < z.1 then i + 1 else i) j)) 3), (bg, ob (tab R.length z.2) 3), (bp, ob (tab (R.length + 1) (fun k => (pl R k : Int))) 3)]) (fun z => R.length + 1 - z.1) (0, fun j => if j = i then -1 else g j)
        (fun a w hs => by
          simp only [Nat.not_lt_zero, if_false]
          exact hs.lessE rfl (lk_cons rfl (lk_cons rfl (lk_cons rfl (lk_cons rfl (lk_cons rfl (lk_cons rfl (lk_cons rfl (fun _ _ h => lk_nil h))))))))) ⟨Nat.zero_le _, fun j hjl r' hr' => by simp only [if_neg (show ¬ j = i by omega)]; exact hg j hjl r' hr', .inl ⟨by simp, fun k h => absurd h (Nat.not_lt_zero _)⟩⟩ ?_
      rintro ⟨k, g2⟩ ⟨hk, hg2, hq⟩
      simp only at hk hg2 hq ⊢
      have kg : (tab R.length g2)[i]? = some (.int .i64 (g2 i)) := tab_get _ hlt
      rcases Nat.lt_or_ge k (R.length + 1) with hkl | hkge
      · have d3 : cm .lss (k : Int) ((R.length + 1 : Nat) : Int) = true := cm_lo (by omega)
        have d4 : ar .add .i64 (k : Int) 1 = ((k + 1 : Nat) : Int) := wrap_nat (by omega)
        have kp : (tab (R.length + 1) (fun k => (pl R k : Int)))[k]? = some (.int .i64 (pl R k : Int)) := tab_get _ hkl
        have kp1 : (tab (R.length + 1) (fun k => (pl R k : Int)))[i + 1]? = some (.int .i64 ((pl R (i + 1) : Nat) : Int)) := tab_get _ hil1
        have hgl2 : i < (tab R.length g2).length := by rw [tab_len]; exact hlt
        have hhl : k < (tab (R.length + 1) (fun j => hitF R (if j < k then i + 1 else i) j)).length := by rw [tab_len]; exact hkl
        by_cases hm : (pl R k : Int) = goalI r
        · have d5 : cm .eql (pl R k : Int) (goalI r) = true := cm_yes hm
          have s1 := tab_set g2 (k : Int) hlt
          have s2 : (tab (R.length + 1) (fun j => hitF R (if j < k then i + 1 else i) j)).set k (.int .i64 1) = tab (R.length + 1) (fun j => hitF R (if j < k + 1 then i + 1 else i) j) := by
            rw [tab_set _ _ hkl]
            refine tab_congr (fun j _ => ?_)
            by_cases h1 : j = k
            · subst h1
              rw [if_pos rfl, if_pos (Nat.lt_succ_self _)]
              have e := hitN_take hr (pl R j : Int)
              rw [if_pos ⟨hj, hm.symm⟩] at e
              unfold hitF
              rw [if_pos (show 0 < hitN (R.take (i + 1)) (pl R j : Int) by omega)]
            · rw [if_neg h1]
              by_cases h2 : j < k
              · rw [if_pos h2, if_pos (show j < k + 1 by omega)]
              · rw [if_neg h2, if_neg (show ¬ j < k + 1 by omega)]
          repeat (first | refine Af ?_ | refine Ac ?_ | refine Aa ?_ | refine Ae ?_ | refine Ad ?_ | refine Ag ?_ | refine Ah ?_ | refine Ao ?_ | refine Ay ?_ | refine Am ?_ | refine Be ?_ | refine Aw ?_ | refine L.lenV (c := ?_) | refine Ai ?_ | refine Ar ?_ | refine Ap ?_ | exact D.endsQ | refine QL.fin ?_ | refine C.quiet (h := ?_) | (refine QL.step (v := ?_) (by exact rfl) (by exact rfl) ?_ ?_; rotate_left) | refine L.loadK 2 kp (zP k) (c := ?_) | refine L.loadK 2 kp1 (zP (i + 1)) (c := ?_) | refine L.storeK 1 hgl2 (zG i) (c := ?_) | refine L.storeK 0 hhl (zH k) (c := ?_) | refine Ba sg hlt ?_ | refine Ba sp hkl ?_ | refine Ba sp hil1 ?_ | refine Ba sh hkl ?_ | refine L.loadF oL ki (c := ?_) | refine Az sr ?_ | refine Az sp ?_ | refine Az sh ?_ | refine Ba sr hlt ?_ | refine L.loadOA oL (i := i * 9) (ho := by exact rfl) (hi := kl) (hcs := kc) (c := ?_) | refine Au (hJ) ?_)
          rw [s1, s2]
          refine D.then_ fun a1 w1 hs => ⟨(k + 1, fun j => if j = i then (k : Int) else g2 j), ⟨hkl, fun j hjl r' hr' => ?_, .inr ⟨k, by omega, by simp, hm⟩⟩, by show R.length + 1 - (k + 1) < R.length + 1 - k; omega, ?_⟩
          · simp only [if_neg (show ¬ j = i by omega)]; exact hg2 j hjl r' hr'
          · exact hs.lessE rfl (lk_cons rfl (lk_cons rfl (lk_cons rfl (lk_cons rfl (lk_cons rfl (lk_cons rfl (lk_cons rfl (fun _ _ h => lk_nil h))))))))
        · have d5 : cm .eql (pl R k : Int) (goalI r) = false := cm_no hm
          have s2 : tab (R.length + 1) (fun j => hitF R (if j < k then i + 1 else i) j) = tab (R.length + 1) (fun j => hitF R (if j < k + 1 then i + 1 else i) j) := by
            refine tab_congr (fun j _ => ?_)
            by_cases h1 : j = k
            · subst h1
              rw [if_neg (Nat.lt_irrefl _), if_pos (Nat.lt_succ_self _)]
              have e : hitN (R.take (i + 1)) (pl R j : Int) = hitN (R.take i) (pl R j : Int) := by
                have := hitN_take hr (pl R j : Int)
                rw [if_neg (fun h => hm h.2.symm)] at this; omega
              unfold hitF
              rw [e]
            · by_cases h2 : j < k
              · rw [if_pos h2, if_pos (show j < k + 1 by omega)]
              · rw [if_neg h2, if_neg (show ¬ j < k + 1 by omega)]
          repeat (first | refine Af ?_ | refine Ac ?_ | refine Aa ?_ | refine Ae ?_ | refine Ad ?_ | refine Ag ?_ | refine Ah ?_ | refine Ao ?_ | refine Ay ?_ | refine Am ?_ | refine Aj ?_ | refine Be ?_ | refine Aw ?_ | refine L.lenV (c := ?_) | refine Ai ?_ | refine Ar ?_ | refine Ap ?_ | exact D.endsQ | refine QL.fin ?_ | refine C.quiet (h := ?_) | (refine QL.step (v := ?_) (by exact rfl) (by exact rfl) ?_ ?_; rotate_left) | refine L.loadK 2 kp (zP k) (c := ?_) | refine L.loadK 2 kp1 (zP (i + 1)) (c := ?_) | refine Ba sp hkl ?_ | refine Ba sp hil1 ?_ | refine L.loadF oL ki (c := ?_) | refine Az sr ?_ | refine Az sp ?_ | refine Az sh ?_ | refine Ba sr hlt ?_ | refine L.loadOA oL (i := i * 9) (ho := by exact rfl) (hi := kl) (hcs := kc) (c := ?_) | refine Au (hJ) ?_)
          rw [s2]
          refine D.then_ fun a1 w1 hs => ⟨(k + 1, g2), ⟨hkl, hg2, ?_⟩, by show R.length + 1 - (k + 1) < R.length + 1 - k; omega, hs.lessE rfl (lk_cons rfl (lk_cons rfl (lk_cons rfl (lk_cons rfl (lk_cons rfl (lk_cons rfl (lk_cons rfl (fun _ _ h => lk_nil h))))))))⟩
          rcases hq with ⟨h1, h2⟩ | h
          · refine .inl ⟨h1, fun j hjk => ?_⟩
            rcases Nat.lt_or_ge j k with h3 | h3
            · exact h2 j h3
            · have : j = k := by omega
              subst this; exact hm
          · exact .inr h
      · have d3 : cm .lss (k : Int) ((R.length + 1 : Nat) : Int) = false := cm_lo' (by omega)
        have hke : k = R.length + 1 := by omega
        subst hke
        rcases hq with ⟨h1, h2⟩ | ⟨j, h1, h2, h3⟩
        · have d5 : cm .lss (g2 i) 0 = true := cm_lo (by omega)
          rw [linesM_lost hrow hend (List.mem_of_getElem? hr) hj (fun k hk => h2 k (by omega))]
          repeat (first | refine Af ?_ | refine Ac ?_ | refine Aa ?_ | refine Ae ?_ | refine Ad ?_ | refine Ag ?_ | refine Ah ?_ | refine Am ?_ | refine Aj ?_ | refine Be ?_ | refine Ax ?_ | refine Aw ?_ | refine Bf ?_ | refine L.lenV (c := ?_) | refine An ?_ | refine Av ?_ | refine Bb ?_ | refine C.exit ?_ | refine Bg ?_ | refine Bh ?_ | refine Bc ?_ | refine L.loadK 1 kg (zG i) (c := ?_) | refine Ba sg hlt ?_ | refine Az sr ?_ | refine Az sp ?_ | refine Az sh ?_ | refine Ba sr hlt ?_ | refine L.loadOA oL (i := i * 9) (ho := by exact rfl) (hi := kl) (hcs := kc) (c := ?_) | refine Au (hJ) ?_)
          (refine D.ret (vs := [osV 0 none, .int .i64 4]) (RV.tmp rfl (RV.tmp rfl RV.nil)) ?_; intro w' hw; exact Post.mk (is := []) (At.back hB hw) List.nodup_nil rfl ⟨none, osG.nil, rfl, rfl⟩)
        · have d5 : cm .lss (g2 i) 0 = false := cm_lo' (by omega)
          repeat (first | refine Af ?_ | refine Ac ?_ | refine Aa ?_ | refine Ae ?_ | refine Ad ?_ | refine Ag ?_ | refine Ah ?_ | refine Ao ?_ | refine Aj ?_ | refine Be ?_ | refine Ax ?_ | refine Aw ?_ | refine Bf ?_ | refine L.lenV (c := ?_) | refine Ar ?_ | refine C.exit ?_ | refine Bg ?_ | refine Bh ?_ | refine Ap ?_ | refine Bc ?_ | refine L.loadK 1 kg (zG i) (c := ?_) | refine Ba sg hlt ?_ | refine Az sr ?_ | refine Az sp ?_ | refine Az sh ?_ | refine Ba sr hlt ?_ | refine L.loadOA oL (i := i * 9) (ho := by exact rfl) (hi := kl) (hcs := kc) (c := ?_) | refine Au (hJ) ?_)
          refine D.then_ fun a1 w1 hs => ⟨(i + 1, g2), ⟨hlt, fun j' hjl r' hr' => ?_⟩, by show R.length - (i + 1) < R.length - i; omega, ?_⟩
          · rcases Nat.lt_or_ge j' i with h | h
            · exact hg2 j' h r' hr'
            · have : j' = i := by omega
              subst this
              rw [hr] at hr'
              cases hr'
              exact ⟨fun h => (by rw [hj] at h; cases h), fun _ => ⟨j, h1, h2, h3⟩⟩
          · have eH : tab (R.length + 1) (hitF R (i + 1)) = tab (R.length + 1) (fun j => hitF R (if j < R.length + 1 then i + 1 else i) j) := tab_congr (fun k hk => by rw [if_pos hk])
            simp only [eH]
            exact hs.lessE rfl (lk_cons rfl (lk_cons rfl (lk_cons rfl (lk_cons rfl (lk_cons rfl (lk_cons rfl (fun _ _ h => lk_nil h)))))))
  have c1 : cm .lss (i : Int) R.length = false := cm_lo' (by omega)
  have hie : i = R.length := by omega
  subst hie
  have hfd : found R := fun r hr hj => by
    obtain ⟨i, hi⟩ := List.mem_iff_getElem?.1 hr
    obtain ⟨k, k1, _, k3⟩ := (hg i (List.getElem?_eq_some_iff.1 hi).1 r hi).2 hj
    exact ⟨k, k1, k3⟩
  rw [linesM_found hrow hfd hend]
  have hpl0 : ∀ k, k ≤ R.length → pl R k ≤ code.size := fun k hk => by
    rcases Nat.lt_or_ge k R.length with h | h
    · have := pl_mono hrow h (Nat.le_refl _); omega
    · have : k = R.length := by omega
      subst this; omega
  have eH : tab (R.length + 1) (hitF R R.length) = tab (R.length + 1) (fun j => if j < 0 then labB R (pl R j : Int) else if 0 < hitN R (pl R j : Int) then 1 else 0) := tab_congr (fun k _ => by
    rw [if_neg (Nat.not_lt_zero _)]; unfold hitF; rw [List.take_of_length_le (Nat.le_refl _)])
  rw [eH]
  clear eH e00
  repeat (first | refine Af ?_ | refine Ac ?_ | refine Aa ?_ | refine Ae ?_ | refine Ad ?_ | refine Ag ?_ | refine Ah ?_ | refine Aj ?_ | refine Ai ?_ | refine C.exit ?_ | refine Bg ?_ | refine Bh ?_ | refine Bc ?_ | refine Az sr ?_)
  refine C.loop (α := Nat × Nat) (fun z => z.1 ≤ R.length + 1 ∧ z.2 ≤ z.1 ∧ (z.1 ≤ R.length → z.2 = numB R (pl R z.1))) (fun z => [(0, .string code), (4, osV R.length y), (7, .slice (some ⟨bp, 0, none⟩) (R.length + 1) (R.length + 1)), (9, .slice (some ⟨bg, 0, none⟩) R.length R.length), (10, .slice (some ⟨bh, 0, none⟩) (R.length + 1) (R.length + 1)), (13, .int .i64 (z.2 : Int)), (14, .int .i64 (z.1 : Int))])
    (fun z => [(bh, ob (tab (R.length + 1) (fun j => if j < z.1 then labB R (pl R j : Int) else if 0 < hitN R (pl R j : Int) then 1 else 0)) 3), (bg, ob (tab R.length g) 3), (bp, ob (tab (R.length + 1) (fun k => (pl R k : Int))) 3)]) (fun z => R.length + 1 - z.1) (0, 0)
    (fun a w hs => hs.lessE rfl (lk_cons rfl (lk_cons rfl (lk_cons rfl (lk_cons rfl (lk_cons rfl (lk_cons rfl (lk_cons rfl (fun _ _ h => lk_nil h))))))))) ⟨Nat.zero_le _, Nat.le_refl _, fun _ => rfl⟩ ?_
  rintro ⟨k, c⟩ ⟨hk, hc, hcn⟩
  simp only at hk hc hcn ⊢
  rcases Nat.lt_or_ge k (R.length + 1) with hkl | hkge
  · have d1 : cm .lss (k : Int) ((R.length + 1 : Nat) : Int) = true := cm_lo (by omega)
    have d2 : ar .add .i64 (k : Int) 1 = ((k + 1 : Nat) : Int) := wrap_nat (by omega)
    have d3 : ar .add .i64 (c : Int) 1 = ((c + 1 : Nat) : Int) := wrap_nat (by omega)
    have hcn' := hcn (by omega)
    have hlab := labB_pl (R := R) (a := pl R k)
    have kh : (tab (R.length + 1) (fun j => if j < k then labB R (pl R j : Int) else if 0 < hitN R (pl R j : Int) then 1 else 0))[k]? = some (.int .i64 (if 0 < hitN R (pl R k : Int) then 1 else 0)) := by rw [tab_get _ hkl, if_neg (Nat.lt_irrefl _)]
    have hhl : k < (tab (R.length + 1) (fun j => if j < k then labB R (pl R j : Int) else if 0 < hitN R (pl R j : Int) then 1 else 0)).length := by rw [tab_len]; exact hkl
    by_cases hh : 0 < hitN R (pl R k : Int)
    · rw [if_pos hh] at kh hlab
      rw [← hcn'] at hlab
      have d5 : cm .eql (1 : Int) 1 = true := cm_yes rfl
      have s2 : (tab (R.length + 1) (fun j => if j < k then labB R (pl R j : Int) else if 0 < hitN R (pl R j : Int) then 1 else 0)).set k (.int .i64 ((c + 1 : Nat) : Int)) = tab (R.length + 1) (fun j => if j < k + 1 then labB R (pl R j : Int) else if 0 < hitN R (pl R j : Int) then 1 else 0) := by
        rw [tab_set _ _ hkl]
        refine tab_congr (fun j _ => ?_)
        by_cases h1 : j = k
        · subst h1; rw [if_pos rfl, if_pos (Nat.lt_succ_self _), hlab]
        · rw [if_neg h1]
          by_cases h2 : j < k
          · rw [if_pos h2, if_pos (show j < k + 1 by omega)]
          · rw [if_neg h2, if_neg (show ¬ j < k + 1 by omega)]
      repeat (first | refine Af ?_ | refine Ac ?_ | refine Aa ?_ | refine Ae ?_ | refine Ad ?_ | refine Ag ?_ | refine Ah ?_ | refine Ao ?_ | refine Am ?_ | refine L.lenV (c := ?_) | refine Ai ?_ | refine Ar ?_ | refine Ap ?_ | refine L.loadK 0 kh (zH k) (c := ?_) | refine L.storeK 0 hhl (zH k) (c := ?_) | refine Ba sh hkl ?_ | refine Az sh ?_)
      rw [s2]
      exact D.then_ fun a1 w1 hs => ⟨(k + 1, c + 1), ⟨hkl, by omega, fun h => by rw [numB_pl hrow hfd (by omega), if_pos hh, ← hcn']⟩, by show R.length + 1 - (k + 1) < R.length + 1 - k; omega, hs.lessE rfl (lk_cons rfl (lk_cons rfl (lk_cons rfl (lk_cons rfl (lk_cons rfl (lk_cons rfl (lk_cons rfl (fun _ _ h => lk_nil h))))))))⟩
    · rw [if_neg hh] at kh hlab
      have d5 : cm .eql (0 : Int) 1 = false := cm_no (by omega)
      have s2 : tab (R.length + 1) (fun j => if j < k then labB R (pl R j : Int) else if 0 < hitN R (pl R j : Int) then 1 else 0) = tab (R.length + 1) (fun j => if j < k + 1 then labB R (pl R j : Int) else if 0 < hitN R (pl R j : Int) then 1 else 0) := by
        refine tab_congr (fun j _ => ?_)
        by_cases h1 : j = k
        · subst h1; rw [if_neg (Nat.lt_irrefl _), if_pos (Nat.lt_succ_self _), hlab, if_neg hh]; rfl
        · by_cases h2 : j < k
          · rw [if_pos h2, if_pos (show j < k + 1 by omega)]
          · rw [if_neg h2, if_neg (show ¬ j < k + 1 by omega)]
      repeat (first | refine Af ?_ | refine Ac ?_ | refine Aa ?_ | refine Ae ?_ | refine Ad ?_ | refine Ag ?_ | refine Ah ?_ | refine Ao ?_ | refine Am ?_ | refine Aj ?_ | refine L.lenV (c := ?_) | refine Ai ?_ | refine Ar ?_ | refine Ap ?_ | refine L.loadK 0 kh (zH k) (c := ?_) | refine Ba sh hkl ?_ | refine Az sh ?_)
      rw [s2]
      exact D.then_ fun a1 w1 hs => ⟨(k + 1, c), ⟨hkl, by omega, fun h => by rw [numB_pl hrow hfd (by omega), if_neg hh, ← hcn']; rfl⟩, by show R.length + 1 - (k + 1) < R.length + 1 - k; omega, hs.lessE rfl (lk_cons rfl (lk_cons rfl (lk_cons rfl (lk_cons rfl (lk_cons rfl (lk_cons rfl (lk_cons rfl (fun _ _ h => lk_nil h))))))))⟩
  have d1 : cm .lss (k : Int) ((R.length + 1 : Nat) : Int) = false := cm_lo' (by omega)
  have hke : k = R.length + 1 := by omega
  subst hke
  have eH : tab (R.length + 1) (fun j => if j < R.length + 1 then labB R (pl R j : Int) else if 0 < hitN R (pl R j : Int) then 1 else 0) = tab (R.length + 1) (fun j => labB R (pl R j : Int)) := tab_congr (fun k hk => by rw [if_pos hk])
  rw [eH]
  clear eH
  repeat (first | refine Af ?_ | refine Ac ?_ | refine Aa ?_ | refine Ae ?_ | refine Ad ?_ | refine Ag ?_ | refine Ah ?_ | refine Aj ?_ | refine L.lenV (c := ?_) | refine Ai ?_ | refine C.exit ?_ | refine Bg ?_ | refine Bh ?_ | refine Bc ?_ | refine Az sh ?_)
  clear d1 hcn hc
  refine C.loop (α := Nat × List Ln × OS) (fun z => z.1 ≤ R.length + 1 ∧ z.2.1.length ≤ 2 * z.1 ∧ (z.1 ≤ R.length → z.2.1 = lsOf R (R.take z.1)) ∧ (z.1 = R.length + 1 → z.2.1 = lsOf R R ++ lab1 R (code.size : Int)) ∧ osG 11 z.2.1.length (z.2.1.flatMap Ln.vs) z.2.2)
    (fun z => [(0, .string code), (4, osV R.length y), (7, .slice (some ⟨bp, 0, none⟩) (R.length + 1) (R.length + 1)), (9, .slice (some ⟨bg, 0, none⟩) R.length R.length), (10, .slice (some ⟨bh, 0, none⟩) (R.length + 1) (R.length + 1)), (15, osV z.2.1.length z.2.2), (16, .int .i64 (z.1 : Int))]) (fun z => (bh, ob (tab (R.length + 1) (fun j => labB R (pl R j : Int))) 3) :: (bg, ob (tab R.length g) 3) :: (bp, ob (tab (R.length + 1) (fun k => (pl R k : Int))) 3) :: osC 37 z.2.2 []) (fun z => R.length + 1 - z.1) (0, [], none)
    (fun a w hs => hs.lessE rfl (lk_cons rfl (lk_cons rfl (lk_cons rfl (lk_cons rfl (lk_cons rfl (lk_cons rfl (lk_cons rfl (fun _ _ h => lk_nil h))))))))) ⟨Nat.zero_le _, Nat.le_refl _, fun _ => rfl, fun h => by simp at h, osG.nil⟩ ?_
  rintro ⟨i, ls, y5⟩ ⟨hi, hll, hl1, hl2, hG⟩
  simp only at hi hll hl1 hl2 hG ⊢
  rcases Nat.lt_or_ge i (R.length + 1) with hil | hge
  · have c1 : cm .leq (i : Int) R.length = true := cm_le (by omega)
    have c2 : ar .add .i64 (i : Int) 1 = ((i + 1 : Nat) : Int) := wrap_nat (by omega)
    have kh : (tab (R.length + 1) (fun j => labB R (pl R j : Int)))[i]? = some (.int .i64 (labB R (pl R i : Int))) := tab_get _ hil
    have hls := hl1 (by omega)
    have hm3 : ls.length + 1 ≤ maxLen := by unfold maxLen; omega
    have hlo : ∃ ls1, ls1 = ls ++ lab1 R (pl R i : Int) := ⟨_, rfl⟩
    obtain ⟨ls1, hls1⟩ := hlo
    have hll1 : ls1.length ≤ 2 * i + 1 := by rw [hls1, List.length_append]; have := lab1_len R (pl R i : Int); omega
    have hm4 : ls1.length + 1 ≤ maxLen := by unfold maxLen; omega
    by_cases hh : 0 < hitN R (pl R i : Int)
    · have hlab := labB_nat hh
      have d5 : cm .gtr (labB R (pl R i : Int)) 0 = true := cm_gt (by omega)
      have e1 : lab1 R (pl R i : Int) = [lbl (labB R (pl R i : Int))] := by unfold lab1; rw [if_pos hh]; rfl
      rw [e1] at hls1
      repeat (first | refine Af ?_ | refine Ac ?_ | refine Aa ?_ | refine Ae ?_ | refine Ad ?_ | refine Ah ?_ | refine As ?_ | refine Am ?_ | refine Ai ?_ | refine Ap ?_ | refine L.buildS (c := fun _ => ?_) | refine L.loadK 0 kh (zH i) (c := ?_) | refine Ba sh hil ?_ | refine Az sr ?_)
      rename_i nb
      refine L.appendU [_, _, _, _] (L2 := []) (y := y5) (m := ls.length) (u := .slice (some ⟨nb, 0, none⟩) 1 1) (k := 1) (news := Ln.vs (lbl (labB R (pl R i : Int)))) hG rfl (fun w hw => Rd.own (hw.holds _ List.mem_cons_self) (by simp) (Nat.le_refl _) 11 rfl) rfl (by have := ones_vs [lbl (labB R (pl R i : Int))]; simpa using this) hm3 (by omega) (c := fun y6 hG6 _ => ?_)
      simp only [List.cons_append, List.nil_append]
      refine L.dropM 1 rfl ?_
      have f1 : ls.flatMap Ln.vs ++ Ln.vs (lbl (labB R (pl R i : Int))) = ls1.flatMap Ln.vs := by rw [hls1]; simp
      have f2 : ls.length + 1 = ls1.length := by rw [hls1]; simp
      rw [f1, f2] at hG6
      rw [f2]
      clear hlab d5 hG hm3 hll kh e1
      rcases Nat.lt_or_ge i R.length with hlt | hge
      · have d1 : cm .lss (i : Int) R.length = true := cm_lo (by omega)
        try rw [d1]
        obtain ⟨r, hr⟩ : ∃ r, R[i]? = some r := ⟨_, List.getElem?_eq_getElem hlt⟩
        obtain ⟨q1, q2, q3⟩ := hrow i r hr
        obtain ⟨kc, kl⟩ := ins_at hr
        have oL := r1.2 (by omega)
        obtain ⟨gn, gy⟩ := hg i hlt r hr
        have hnx : lsOf R (R.take (i + 1)) = ls1 ++ [line1 R r] := by
          have et : R.take (i + 1) = R.take i ++ [r] := by
            obtain ⟨h9, rfl⟩ := List.getElem?_eq_some_iff.1 hr
            rw [List.take_add_one, List.getElem?_eq_getElem h9]; rfl
          rw [et, lsOf_snoc, q1, ← hls]
          have hq := hls1
          first
            | rw [e1, hq, List.append_nil]
            | rw [hq]; simp [lab1, hh]; rfl
        have f1 : ls1.flatMap Ln.vs ++ Ln.vs (line1 R r) = (ls1 ++ [line1 R r]).flatMap Ln.vs := by simp
        have f2 : ls1.length + 1 = (ls1 ++ [line1 R r]).length := by simp
        have ho : ones (Ln.vs (line1 R r)) := by have := ones_vs [line1 R r]; simpa using this
        cases hj : r.2.jump with
        | false =>
          have kg : (tab R.length g)[i]? = some (.int .i64 (-1)) := by rw [tab_get _ hlt, gn hj]
          have hln : line1 R r = ⟨0, r.2, 0⟩ := by unfold line1; rw [if_neg (by simp [hj])]
          have d6 : cm .geq (-1 : Int) 0 = false := cm_ge' (by omega)
          repeat (first | refine Af ?_ | refine Ac ?_ | refine Aa ?_ | refine Ae ?_ | refine Ad ?_ | refine Ag ?_ | refine Ah ?_ | refine Al 0 ?_ | refine Ab 0 ?_ | refine As ?_ | refine Aq (fun _ => ?_) | refine Am ?_ | refine Aj ?_ | refine Ap ?_ | refine Bc ?_ | refine L.buildS (c := fun _ => ?_) | refine L.loadK 2 kg (zG i) (c := ?_) | refine Ba sg hlt ?_ | refine Az sr ?_ | refine Ba sr hlt ?_ | refine L.loadOA oL (i := i * 9) (ho := by exact rfl) (hi := kl) (hcs := kc) (c := ?_))
          rename_i bx nb
          refine L.appendU [_, _, _, _, _] (L2 := []) (y := y6) (m := ls1.length) (u := .slice (some ⟨nb, 0, none⟩) 1 1) (k := 1) (news := Ln.vs (line1 R r)) hG6 rfl (fun w hw => Rd.own (hw.holds _ List.mem_cons_self) (by simp) (Nat.le_refl _) 11 (by rw [hln]; rfl)) rfl ho hm4 (by omega) (c := fun y7 hG7 _ => ?_)
          rw [f1, f2] at hG7
          rw [f2]
          simp only [List.cons_append, List.nil_append]
          repeat (first | refine Ac ?_ | refine Aa ?_ | refine Ad ?_ | refine Ag ?_ | refine Ao ?_ | refine Ar ?_ | refine Bc ?_)
          exact D.then_ fun a1 w1 hs => ⟨(i + 1, ls1 ++ [line1 R r], y7), ⟨by omega, by simp only [List.length_append, List.length_cons, List.length_nil]; omega, fun _ => hnx.symm, fun h => by omega, hG7⟩, by show R.length + 1 - (i + 1) < R.length + 1 - i; omega, hs.lessD 2 rfl (lk_cons rfl (lk_cons rfl (lk_cons rfl (lk_cons rfl (lk_cons rfl (lk_cons rfl (lk_cons rfl (fun _ _ h => lk_nil h))))))))⟩
        | true =>
          obtain ⟨k, k1, k2, k3⟩ := gy hj
          have hkl : k < R.length + 1 := by omega
          have kg : (tab R.length g)[i]? = some (.int .i64 (k : Int)) := by rw [tab_get _ hlt, k2]
          have kq : (tab (R.length + 1) (fun j => labB R (pl R j : Int)))[k]? = some (.int .i64 (labB R (goalI r))) := by rw [tab_get _ hkl, k3]
          have hln : line1 R r = ⟨0, ⟨r.2.op, r.2.d, r.2.s, r.2.t, r.2.mb, r.2.mi, r.2.ms, r.2.md, 0⟩, labB R (goalI r)⟩ := by unfold line1; rw [if_pos hj]
          have d6 : cm .geq (k : Int) 0 = true := cm_ge (by omega)
          repeat (first | refine Af ?_ | refine Ac ?_ | refine Aa ?_ | refine Ae ?_ | refine Ad ?_ | refine Ag ?_ | refine Ah ?_ | refine Ay ?_ | refine Al 0 ?_ | refine Ab 0 ?_ | refine As ?_ | refine Aq (fun _ => ?_) | refine Am ?_ | refine Bc ?_ | refine L.buildS (c := fun _ => ?_) | refine L.loadK 2 kg (zG i) (c := ?_) | refine L.loadK 1 kq (zH k) (c := ?_) | refine Ba sg hlt ?_ | refine Ba sh hkl ?_ | refine Az sr ?_ | refine Ba sr hlt ?_ | refine L.loadOA oL (i := i * 9) (ho := by exact rfl) (hi := kl) (hcs := kc) (c := ?_))
          rename_i bx nb
          refine L.appendU [_, _, _, _, _] (L2 := []) (y := y6) (m := ls1.length) (u := .slice (some ⟨nb, 0, none⟩) 1 1) (k := 1) (news := Ln.vs (line1 R r)) hG6 rfl (fun w hw => Rd.own (hw.holds _ List.mem_cons_self) (by simp) (Nat.le_refl _) 11 (by rw [hln]; rfl)) rfl ho hm4 (by omega) (c := fun y7 hG7 _ => ?_)
          rw [f1, f2] at hG7
          rw [f2]
          simp only [List.cons_append, List.nil_append]
          repeat (first | refine Ac ?_ | refine Aa ?_ | refine Ad ?_ | refine Ag ?_ | refine Ao ?_ | refine Ar ?_ | refine Bc ?_)
          exact D.then_ fun a1 w1 hs => ⟨(i + 1, ls1 ++ [line1 R r], y7), ⟨by omega, by simp only [List.length_append, List.length_cons, List.length_nil]; omega, fun _ => hnx.symm, fun h => by omega, hG7⟩, by show R.length + 1 - (i + 1) < R.length + 1 - i; omega, hs.lessD 2 rfl (lk_cons rfl (lk_cons rfl (lk_cons rfl (lk_cons rfl (lk_cons rfl (lk_cons rfl (lk_cons rfl (fun _ _ h => lk_nil h))))))))⟩
      · have d1 : cm .lss (i : Int) R.length = false := cm_lo' (by omega)
        try rw [d1]
        have hin : i = R.length := by omega
        have hnx : ls1 = lsOf R R ++ lab1 R (code.size : Int) := by
          rw [hend, ← hin, hls1]
          have et : lsOf R R = ls := by rw [hls, hin, List.take_of_length_le (Nat.le_refl _)]
          rw [et]
          first
            | rw [e1, List.append_nil]
            | (simp [lab1, hh]; rfl)
        repeat (first | refine Af ?_ | refine Ac ?_ | refine Aa ?_ | refine Ae ?_ | refine Ad ?_ | refine Ag ?_ | refine Ah ?_ | refine Ao ?_ | refine Aj ?_ | refine Ar ?_ | refine Ap ?_ | refine Bc ?_ | refine Az sr ?_)
        exact D.then_ fun a1 w1 hs => ⟨(i + 1, ls1, y6), ⟨by omega, by show ls1.length ≤ 2 * (i + 1); omega, fun h => by omega, fun _ => hnx, hG6⟩, by show R.length + 1 - (i + 1) < R.length + 1 - i; omega, hs.lessE rfl (lk_cons rfl (lk_cons rfl (lk_cons rfl (lk_cons rfl (lk_cons rfl (lk_cons rfl (lk_cons rfl (fun _ _ h => lk_nil h))))))))⟩
    · have e1 : lab1 R (pl R i : Int) = [] := by unfold lab1; rw [if_neg hh]
      have hlab : labB R (pl R i : Int) = 0 := by unfold labB; rw [if_neg hh]
      have d5 : cm .gtr (labB R (pl R i : Int)) 0 = false := cm_gt' (by omega)
      rw [e1, List.append_nil] at hls1
      rw [← hls1] at hG ⊢
      have hG6 := hG
      generalize y5 = y6 at *
      repeat (first | refine Af ?_ | refine Ac ?_ | refine Aa ?_ | refine Ae ?_ | refine Ad ?_ | refine Ah ?_ | refine Am ?_ | refine Aj ?_ | refine Ai ?_ | refine Ap ?_ | refine L.loadK 0 kh (zH i) (c := ?_) | refine Ba sh hil ?_ | refine Az sr ?_)
      clear hlab d5 hG hm3 hll kh
      rcases Nat.lt_or_ge i R.length with hlt | hge
      · have d1 : cm .lss (i : Int) R.length = true := cm_lo (by omega)
        try rw [d1]
        obtain ⟨r, hr⟩ : ∃ r, R[i]? = some r := ⟨_, List.getElem?_eq_getElem hlt⟩
        obtain ⟨q1, q2, q3⟩ := hrow i r hr
        obtain ⟨kc, kl⟩ := ins_at hr
        have oL := r1.2 (by omega)
        obtain ⟨gn, gy⟩ := hg i hlt r hr
        have hnx : lsOf R (R.take (i + 1)) = ls1 ++ [line1 R r] := by
          have et : R.take (i + 1) = R.take i ++ [r] := by
            obtain ⟨h9, rfl⟩ := List.getElem?_eq_some_iff.1 hr
            rw [List.take_add_one, List.getElem?_eq_getElem h9]; rfl
          rw [et, lsOf_snoc, q1, ← hls]
          have hq := hls1
          first
            | rw [e1, hq, List.append_nil]
            | rw [hq]; simp [lab1, hh]; rfl
        have f1 : ls1.flatMap Ln.vs ++ Ln.vs (line1 R r) = (ls1 ++ [line1 R r]).flatMap Ln.vs := by simp
        have f2 : ls1.length + 1 = (ls1 ++ [line1 R r]).length := by simp
        have ho : ones (Ln.vs (line1 R r)) := by have := ones_vs [line1 R r]; simpa using this
        cases hj : r.2.jump with
        | false =>
          have kg : (tab R.length g)[i]? = some (.int .i64 (-1)) := by rw [tab_get _ hlt, gn hj]
          have hln : line1 R r = ⟨0, r.2, 0⟩ := by unfold line1; rw [if_neg (by simp [hj])]
          have d6 : cm .geq (-1 : Int) 0 = false := cm_ge' (by omega)
          repeat (first | refine Af ?_ | refine Ac ?_ | refine Aa ?_ | refine Ae ?_ | refine Ad ?_ | refine Ah ?_ | refine Al 0 ?_ | refine Ab 0 ?_ | refine As ?_ | refine Aq (fun _ => ?_) | refine Am ?_ | refine Aj ?_ | refine Ap ?_ | refine L.buildS (c := fun _ => ?_) | refine L.loadK 2 kg (zG i) (c := ?_) | refine Ba sg hlt ?_ | refine Az sr ?_ | refine Ba sr hlt ?_ | refine L.loadOA oL (i := i * 9) (ho := by exact rfl) (hi := kl) (hcs := kc) (c := ?_))
          rename_i bx nb
          refine L.appendU [_, _, _, _, _] (L2 := []) (y := y6) (m := ls1.length) (u := .slice (some ⟨nb, 0, none⟩) 1 1) (k := 1) (news := Ln.vs (line1 R r)) hG6 rfl (fun w hw => Rd.own (hw.holds _ List.mem_cons_self) (by simp) (Nat.le_refl _) 11 (by rw [hln]; rfl)) rfl ho hm4 (by omega) (c := fun y7 hG7 _ => ?_)
          rw [f1, f2] at hG7
          rw [f2]
          simp only [List.cons_append, List.nil_append]
          repeat (first | refine Ac ?_ | refine Aa ?_ | refine Ad ?_ | refine Ag ?_ | refine Ao ?_ | refine Ar ?_ | refine Bc ?_)
          exact D.then_ fun a1 w1 hs => ⟨(i + 1, ls1 ++ [line1 R r], y7), ⟨by omega, by simp only [List.length_append, List.length_cons, List.length_nil]; omega, fun _ => hnx.symm, fun h => by omega, hG7⟩, by show R.length + 1 - (i + 1) < R.length + 1 - i; omega, hs.lessD 2 rfl (lk_cons rfl (lk_cons rfl (lk_cons rfl (lk_cons rfl (lk_cons rfl (lk_cons rfl (lk_cons rfl (fun _ _ h => lk_nil h))))))))⟩
        | true =>
          obtain ⟨k, k1, k2, k3⟩ := gy hj
          have hkl : k < R.length + 1 := by omega
          have kg : (tab R.length g)[i]? = some (.int .i64 (k : Int)) := by rw [tab_get _ hlt, k2]
          have kq : (tab (R.length + 1) (fun j => labB R (pl R j : Int)))[k]? = some (.int .i64 (labB R (goalI r))) := by rw [tab_get _ hkl, k3]
          have hln : line1 R r = ⟨0, ⟨r.2.op, r.2.d, r.2.s, r.2.t, r.2.mb, r.2.mi, r.2.ms, r.2.md, 0⟩, labB R (goalI r)⟩ := by unfold line1; rw [if_pos hj]
          have d6 : cm .geq (k : Int) 0 = true := cm_ge (by omega)
          repeat (first | refine Af ?_ | refine Ac ?_ | refine Aa ?_ | refine Ae ?_ | refine Ad ?_ | refine Ah ?_ | refine Ay ?_ | refine Al 0 ?_ | refine Ab 0 ?_ | refine As ?_ | refine Aq (fun _ => ?_) | refine Am ?_ | refine L.buildS (c := fun _ => ?_) | refine L.loadK 2 kg (zG i) (c := ?_) | refine L.loadK 1 kq (zH k) (c := ?_) | refine Ba sg hlt ?_ | refine Ba sh hkl ?_ | refine Az sr ?_ | refine Ba sr hlt ?_ | refine L.loadOA oL (i := i * 9) (ho := by exact rfl) (hi := kl) (hcs := kc) (c := ?_))
          rename_i bx nb
          refine L.appendU [_, _, _, _, _] (L2 := []) (y := y6) (m := ls1.length) (u := .slice (some ⟨nb, 0, none⟩) 1 1) (k := 1) (news := Ln.vs (line1 R r)) hG6 rfl (fun w hw => Rd.own (hw.holds _ List.mem_cons_self) (by simp) (Nat.le_refl _) 11 (by rw [hln]; rfl)) rfl ho hm4 (by omega) (c := fun y7 hG7 _ => ?_)
          rw [f1, f2] at hG7
          rw [f2]
          simp only [List.cons_append, List.nil_append]
          repeat (first | refine Ac ?_ | refine Aa ?_ | refine Ad ?_ | refine Ag ?_ | refine Ao ?_ | refine Ar ?_ | refine Bc ?_)
          exact D.then_ fun a1 w1 hs => ⟨(i + 1, ls1 ++ [line1 R r], y7), ⟨by omega, by simp only [List.length_append, List.length_cons, List.length_nil]; omega, fun _ => hnx.symm, fun h => by omega, hG7⟩, by show R.length + 1 - (i + 1) < R.length + 1 - i; omega, hs.lessD 2 rfl (lk_cons rfl (lk_cons rfl (lk_cons rfl (lk_cons rfl (lk_cons rfl (lk_cons rfl (lk_cons rfl (fun _ _ h => lk_nil h))))))))⟩
      · have d1 : cm .lss (i : Int) R.length = false := cm_lo' (by omega)
        try rw [d1]
        have hin : i = R.length := by omega
        have hnx : ls1 = lsOf R R ++ lab1 R (code.size : Int) := by
          rw [hend, ← hin, hls1]
          have et : lsOf R R = ls := by rw [hls, hin, List.take_of_length_le (Nat.le_refl _)]
          rw [et]
          first
            | rw [e1, List.append_nil]
            | (simp [lab1, hh]; rfl)
        repeat (first | refine Ac ?_ | refine Aa ?_ | refine Ae ?_ | refine Ad ?_ | refine Ag ?_ | refine Ao ?_ | refine Aj ?_ | refine Ar ?_ | refine Ap ?_ | refine Az sr ?_)
        exact D.then_ fun a1 w1 hs => ⟨(i + 1, ls1, y6), ⟨by omega, by show ls1.length ≤ 2 * (i + 1); omega, fun h => by omega, fun _ => hnx, hG6⟩, by show R.length + 1 - (i + 1) < R.length + 1 - i; omega, hs.lessE rfl (lk_cons rfl (lk_cons rfl (lk_cons rfl (lk_cons rfl (lk_cons rfl (lk_cons rfl (lk_cons rfl (fun _ _ h => lk_nil h))))))))⟩
  · have c1 : cm .leq (i : Int) R.length = false := cm_le' (by omega)
    have hie : i = R.length + 1 := by omega
    have hls := hl2 hie
    rw [← hls]
    repeat (first | refine Af ?_ | refine Ac ?_ | refine Aa ?_ | refine Ae ?_ | refine Ad ?_ | refine Ag ?_ | refine Ah ?_ | refine Aj ?_ | refine An ?_ | refine C.exit ?_ | refine Bg ?_ | refine Bh ?_ | refine Bc ?_ | refine Az sr ?_)
    rcases y5 with _ | ⟨p5, q5, s5⟩
    · (refine D.ret (vs := [osV ls.length none, .int .i64 0]) (RV.tmp rfl (RV.tmp rfl RV.nil)) ?_; intro w' hw; exact Post.mk (is := []) (At.back hB hw) List.nodup_nil rfl ⟨none, hG, rfl, rfl⟩)
    · (refine D.ret (vs := [osV ls.length (some (p5, q5, s5)), .int .i64 0]) (RV.tmp rfl (RV.tmp rfl RV.nil)) ?_; intro w' hw; exact Post.mk (is := [3]) (At.back hB hw) (by decide) rfl ⟨some (p5, q5, s5), hG, rfl, rfl⟩)
end Go.Proofs.Ytbcaelhchmoigaa.Ly
