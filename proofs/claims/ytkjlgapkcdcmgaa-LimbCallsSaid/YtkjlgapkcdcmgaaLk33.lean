/- Several texts, one behind the other. -/
import Derived.Test.YtkjlgapkcdcmgaaLr
set_option linter.unusedVariables false
set_option linter.unusedSimpArgs false
namespace Go.Proofs.Ytkjlgapkcdcmgaa
open Go Go.RowKit SL
attribute [local irreducible] SL.L SL.C SL.D SL.N SL.H SL.QL SL.QW SL.QP

theorem at12_S (xb : Nat) (regs : Int) (vb vo rv bv lv : Value) (r : List Int) (k : Int) (hk : k < r.length) : Ctr Try.prog 82 [.pointer (some ⟨xb, 0, none⟩), .int .i64 k] []
    (fun w => Old w [] xb 0 [.int .i64 regs, vb, vo, rv, bv, lv] ∧ Rd w [] rv r.length (r.map u64)) (is (.int .u64 (rAt r k)) []) := by
  refine Ctr.enter Try.func82 Try.ntmps82 rfl rfl (fun w hr => ?_)
  cases h0 : cm .lss k 0 with
  | true =>
    repeat' (first | refine C.seq ?_ | refine C.region ?_ | refine L.nil ?_ | refine D.seq ?_ | refine L.move (k := ?_) | refine L.assign (k := ?_) | refine L.cm (c := ?_) | refine C.yes (h1 := ?_) | refine C.ret ?_ | refine D.thenRet ?_)
    (refine D.ret (vs := [_]) (RV.tmp rfl RV.nil) ?_; intro w' hw; exact Post.mk (is := []) hw List.nodup_nil rfl ⟨by unfold rAt; rw [if_pos h0]; rfl, rfl⟩)
  | false =>
    have hk0 : 0 ≤ k := by simpa [cm] using h0
    obtain ⟨v, hv⟩ : ∃ v, r[k.toNat]? = some v := ⟨_, List.getElem?_eq_getElem (by omega)⟩
    have o2 := hr.2.2 (by omega)
    have hki : k = (k.toNat : Int) := by omega
    have hkl : k.toNat < r.length := by omega
    repeat' (first | refine C.seq ?_ | refine C.region ?_ | refine L.nil ?_ | refine D.seq ?_ | refine L.move (k := ?_) | refine L.assign (k := ?_) | refine L.cm (c := ?_) | refine L.fieldAddr (c := ?_) | refine L.nilCheck (k := ?_) | refine C.no (h1 := ?_) | refine C.ret ?_ | refine C.skip ?_ | refine L.loadF hr.1 (i := 3) rfl (c := ?_) | refine L.indexR hr.2.1 hkl (hi := hki) (c := ?_) | refine L.loadF o2 (enc_at (enc := u64) hv) (c := ?_))
    (refine D.ret (vs := [_]) (RV.tmp rfl RV.nil) ?_; intro w' hw; exact Post.mk (is := []) hw List.nodup_nil rfl ⟨by unfold rAt; rw [if_neg (by rw [h0]; simp), hv]; rfl, rfl⟩)
end Go.Proofs.Ytkjlgapkcdcmgaa
namespace Go.Proofs.Ytkjlgapkcdcmgaa
open Go Go.RowKit SL
attribute [local irreducible] SL.L SL.C SL.D SL.N SL.H SL.QL SL.QW SL.QP

/-- The blocks of rows of one's own. -/
def rowsHp (ys : List OS) : Hp := ys.flatMap (fun y => osC 37 y [])
/-- Rows of one's own hold limbs. -/
def rowsG (ls : List (List Int)) (ys : List OS) : Prop := ys.length = ls.length ∧ ∀ (i : Nat) (l : List Int) (y : OS), ls[i]? = some l → ys[i]? = some y → osG 1 l.length (l.map u64) y
/-- .. their values. -/
def rowsV (ls : List (List Int)) (ys : List OS) : List Value := (ls.zip ys).map (fun x => osV x.1.length x.2)
theorem rowsV_snoc {ls : List (List Int)} {ys : List OS} (h : ys.length = ls.length) (l : List Int) (y : OS) : rowsV (ls ++ [l]) (ys ++ [y]) = rowsV ls ys ++ [osV l.length y] := by
  unfold rowsV; rw [List.zip_append h.symm]; simp
theorem rowsG_snoc {ls : List (List Int)} {ys : List OS} (h : rowsG ls ys) {l : List Int} {y : OS} (hG : osG 1 l.length (l.map u64) y) : rowsG (ls ++ [l]) (ys ++ [y]) := by
  refine ⟨by simp [h.1], fun i a b ha hb => ?_⟩
  rcases Nat.lt_or_ge i ls.length with hi | hi
  · rw [List.getElem?_append_left hi] at ha
    rw [List.getElem?_append_left (by rw [h.1]; exact hi)] at hb
    exact h.2 i a b ha hb
  · rw [List.getElem?_append_right hi] at ha
    rw [List.getElem?_append_right (by rw [h.1]; exact hi), h.1] at hb
    have hz : i - ls.length = 0 := by
      have := (List.getElem?_eq_some_iff.1 ha).1; simp at this; omega
    rw [hz] at ha hb
    cases ha; cases hb; exact hG
theorem rd_one {w : World} {A : List Nat} {rs : Rws} {v : Value} (h : RdR w A v rs) : ones (rs.map (·.1)) := by
  intro u hu
  obtain ⟨r, hr, rfl⟩ := List.mem_map.1 hu
  obtain ⟨p, cap, e, _⟩ := (h.2 r hr).1
  rw [e]; rfl
theorem ones_u64 (l : List Int) : ones (l.map u64) := by
  intro u hu
  obtain ⟨x, _, rfl⟩ := List.mem_map.1 hu
  rfl
set_option maxHeartbeats 4000000 in
theorem ownRows_S (v : Value) (rs : Rws) (hb : rs.length ≤ 1000) (hsm : ∀ r ∈ rs, r.2.length ≤ 1000000) : Ctr Try.prog 24 [v] [] (fun w => RdR w [] v rs)
    (fun u B => ∃ y ys, rowsG (rs.map (·.2)) ys ∧ osG 1 rs.length (rowsV (rs.map (·.2)) ys) y ∧ u = shut [osV rs.length y] ∧ B = osC 47 y [] ++ rowsHp ys) := by
  refine Ctr.enter Try.func24 Try.ntmps24 rfl rfl (fun w hr => ?_)
  repeat' (first | refine C.seq ?_ | refine C.region ?_ | refine L.nil ?_ | refine D.seq ?_ | refine L.move (k := ?_) | refine L.assign (k := ?_))
  refine L.callP [] (ownUU_S v rs.length (rs.map (·.1)) (by simp) (rd_one hr) (by omega)) (hpre := fun w hw => hr.1.at hw) (k := ?_)
  rintro u B ⟨y0, hG0, rfl, rfl⟩
  rw [hdrop_nil, List.append_nil]
  unfold shut
  repeat' (first | refine C.seq ?_ | refine C.region ?_ | refine L.nil ?_ | refine D.seq ?_ | refine L.assign (k := ?_) | refine C.block ?_)
  refine C.loop (α := Nat × OS × List OS) (fun x => x.1 ≤ rs.length ∧ rowsG ((rs.take x.1).map (·.2)) x.2.2 ∧ osG 1 rs.length (rowsV ((rs.take x.1).map (·.2)) x.2.2 ++ (rs.drop x.1).map (·.1)) x.2.1)
    (fun x => [(3, osV rs.length x.2.1), (4, .int .i64 x.1)]) (fun x => osC 47 x.2.1 [] ++ rowsHp x.2.2) (fun x => rs.length - x.1) (0, y0, [])
    (fun a w hs => hs.lessE (by simp [rowsHp]) (lk_cons rfl (lk_cons rfl (fun _ _ h => lk_nil h)))) ⟨Nat.zero_le _, ⟨rfl, fun i l y h => by simp at h⟩, by simpa [rowsV] using hG0⟩ ?_
  rintro ⟨i, y, ys⟩ ⟨hi, hR, hG⟩
  simp only at hi hR hG ⊢
  have hyl : ys.length = i := by rw [hR.1]; simp; omega
  have hvl : (rowsV ((rs.take i).map (·.2)) ys).length = i := by simp [rowsV, hyl]; omega
  rcases Nat.lt_or_ge i rs.length with hlt | hge
  · have c1 : cm .lss (i : Int) rs.length = true := cm_lo (by omega)
    have c2 : ar .add .i64 (i : Int) 1 = ((i + 1 : Nat) : Int) := wrap_nat (by omega)
    obtain ⟨r, hy⟩ : ∃ r, rs[i]? = some r := ⟨_, List.getElem?_eq_getElem hlt⟩
    have hdr : rs.drop i = r :: rs.drop (i + 1) := by
      rw [List.drop_eq_getElem?_toList_append, hy]; rfl
    have hcell : (rowsV ((rs.take i).map (·.2)) ys ++ (rs.drop i).map (·.1))[i * 1 + 0]? = some r.1 := by
      rw [Nat.mul_one, Nat.add_zero, List.getElem?_append_right (by omega), hvl, Nat.sub_self, hdr]; rfl
    have hrr := hr.2 r (List.mem_of_getElem? hy)
    have kO := ownU_S r.1 r.2.length (r.2.map u64) (by simp) (ones_u64 _) (hsm r (List.mem_of_getElem? hy))
    repeat' (first | refine C.seq ?_ | refine C.region ?_ | refine L.nil ?_ | refine D.seq ?_ | refine L.move (k := ?_) | refine L.cm (c := ?_) | refine C.yes (h1 := ?_) | refine C.block ?_ | refine C.skip ?_ | refine L.lenR hG.sl (c := ?_) | refine L.indexR hG.sl hlt (c := ?_) | refine L.loadU [] (L2 := rowsHp ys) (i := i) (j := 0) hG (osC_app _ _ _).symm hlt (by decide) hcell (c := ?_))
    refine L.callP [] kO (hpre := fun w hw => hrr.at hw) (k := ?_)
    rintro u B ⟨yi, hGi, rfl, rfl⟩
    rw [hdrop_nil]
    unfold shut
    repeat' (first | refine C.region ?_ | refine L.nil ?_ | refine D.seq ?_ | refine L.move (k := ?_) | refine L.assign (k := ?_) | refine L.ar (c := ?_) | refine D.blkNormal ?_ | refine L.indexR hG.sl hlt (c := ?_) | refine L.setU (osC 37 yi []) (L2 := rowsHp ys) (j := 0) hG (by rw [osC_app 47 y (rowsHp ys)]) rfl hlt (by decide) (hc := osV_cells _ _) (h1 := oneB_os _ _) (c := fun hG' hv' => ?_))
    have hset : (rowsV ((rs.take i).map (·.2)) ys ++ (rs.drop i).map (·.1)).set (i * 1 + 0) (osV r.2.length yi) = rowsV ((rs.take (i + 1)).map (·.2)) (ys ++ [yi]) ++ (rs.drop (i + 1)).map (·.1) := by
      rw [Nat.mul_one, Nat.add_zero, List.set_append_right _ _ (by omega), hvl, Nat.sub_self, hdr, List.take_add_one, hy]
      simp only [List.map_cons, List.set_cons_zero, Option.toList_some, List.map_append, List.map_nil]
      rw [rowsV_snoc hR.1]; simp
    rw [hset] at hG'
    refine D.perm (M' := osC 47 (osSet y (i * 1 + 0) (osV r.2.length yi)) [] ++ rowsHp (ys ++ [yi])) ?_ ?_
    · rw [osC_app 47 (osSet y (i * 1 + 0) (osV r.2.length yi)) (rowsHp ys), show rowsHp (ys ++ [yi]) = rowsHp ys ++ osC 37 yi [] by simp [rowsHp], ← List.append_assoc]
      exact List.perm_append_comm
    refine D.then_ fun a1 w1 hs => ⟨(i + 1, osSet y (i * 1 + 0) (osV r.2.length yi), ys ++ [yi]), ⟨by omega, ?_, hG'⟩, by simp only; omega, hs.lessE rfl ?_⟩
    · rw [List.take_add_one, hy]; simp only [Option.toList_some, List.map_append, List.map_cons, List.map_nil]
      exact rowsG_snoc hR hGi
    · simp only [hv']
      exact (lk_cons rfl (lk_cons rfl (fun _ _ h => lk_nil h)))
  · have c1 : cm .lss (i : Int) rs.length = false := cm_lo' (by omega)
    repeat' (first | refine C.seq ?_ | refine C.region ?_ | refine L.nil ?_ | refine D.seq ?_ | refine L.move (k := ?_) | refine L.assign (k := ?_) | refine L.cm (c := ?_) | refine C.no (h1 := ?_) | refine C.ret ?_ | refine C.exit ?_ | refine D.thenExit ?_ | refine D.blkExit ?_ | refine D.seqR (h := ?_) | refine L.lenR hG.sl (c := ?_))
    rw [List.take_of_length_le hge] at hR hG
    rw [List.drop_of_length_le hge, List.map_nil, List.append_nil] at hG
    refine D.ret (vs := [_]) (RV.tmp rfl RV.nil) ?_
    intro w' hw
    exact Post.mkD 0 hw rfl ⟨y, ys, hR, hG, rfl, rfl⟩
end Go.Proofs.Ytkjlgapkcdcmgaa
