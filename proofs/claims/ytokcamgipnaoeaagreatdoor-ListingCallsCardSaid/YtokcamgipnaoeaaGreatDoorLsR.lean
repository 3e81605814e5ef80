/- Listing, plain: the texts of places are read as the places; an instruction's text is read as the instruction. -/
import Derived.Test.YtokcamgipnaoeaaGreatDoorLsQ
import Derived.Test.YtokcamgipnaoeaaGreatDoorLsCk
set_option linter.unusedVariables false
set_option linter.unusedSimpArgs false
namespace Go.Proofs.YtokcamgipnaoeaaGreatDoor.Ls
open Go Go.Lib

def baseT (mb mi ms : Int) : List UInt8 := regT mb ++ (if mi = -1 then [] else [43] ++ itoa ms ++ [42] ++ regT mi)
theorem placeT_eq (mb mi ms md : Int) : placeT mb mi ms md = 91 :: (baseT mb mi ms ++ (if md = 0 then [] else distT md) ++ [93]) := by
  unfold placeT baseT; simp
set_option maxRecDepth 100000 in
theorem base_dec : (∀ b : Nat, b < 16 → insB (baseT (b : Int) (-1) 1) = ((b : Int), -1, 1) ∧ insA (baseT (b : Int) (-1) 1) (lastS (baseT (b : Int) (-1) 1) (baseT (b : Int) (-1) 1).length) = (0, baseT (b : Int) (-1) 1) ∧ 0 < (baseT (b : Int) (-1) 1).length) ∧
    ∀ b : Nat, b < 16 → ∀ k : Nat, k < 16 → ∀ m ∈ ([1, 2, 4, 8] : List Int), insB (baseT (b : Int) (k : Int) m) = ((b : Int), (k : Int), m) ∧ insA (baseT (b : Int) (k : Int) m) (lastS (baseT (b : Int) (k : Int) m) (baseT (b : Int) (k : Int) m).length) = (0, baseT (b : Int) (k : Int) m) ∧ 0 < (baseT (b : Int) (k : Int) m).length := by decide +kernel
def Plc (mb mi ms : Int) : Prop := (0 ≤ mb ∧ mb ≤ 15) ∧ ((mi = -1 ∧ ms = 1) ∨ (0 ≤ mi ∧ mi ≤ 15 ∧ ms ∈ ([1, 2, 4, 8] : List Int)))
theorem base_of {mb mi ms : Int} (h : Plc mb mi ms) : insB (baseT mb mi ms) = (mb, mi, ms) ∧ insA (baseT mb mi ms) (lastS (baseT mb mi ms) (baseT mb mi ms).length) = (0, baseT mb mi ms) ∧ 0 < (baseT mb mi ms).length := by
  obtain ⟨⟨h1, h2⟩, h3⟩ := h
  obtain ⟨b, rfl⟩ := Int.eq_ofNat_of_zero_le h1
  rcases h3 with ⟨rfl, rfl⟩ | ⟨h4, h5, h6⟩
  · exact base_dec.1 b (by omega)
  · obtain ⟨k, rfl⟩ := Int.eq_ofNat_of_zero_le h4
    exact base_dec.2 b (by omega) k (by omega) ms h6
theorem dist_cons (n : Int) (hn : I64' n) : ∃ c r, distT n = c :: r ∧ pm c = true ∧ ∀ b ∈ r, 48 ≤ b.toNat ∧ b.toNat ≤ 57 := by
  by_cases h0 : n < 0
  · exact ⟨45, decDigits n.natAbs, by unfold distT itoa; rw [if_pos h0, if_pos h0], rfl, dec_dig _⟩
  · exact ⟨43, decDigits n.toNat, by unfold distT itoa; rw [if_neg h0, if_neg h0], rfl, dec_dig _⟩
theorem ins_mem {mb mi ms md : Int} (h : Plc mb mi ms) (hd : I64' md) : insP (baseT mb mi ms ++ (if md = 0 then [] else distT md)) = .m mb mi ms md := by
  obtain ⟨q1, q2, q3⟩ := base_of h
  by_cases h0 : md = 0
  · rw [if_pos h0, List.append_nil]
    unfold insP
    rw [q2]
    simp only [q1]
    rw [h0]
  · rw [if_neg h0]
    obtain ⟨c, r, hcr, hc, hr⟩ := dist_cons md hd
    have hp := of_parse (dist_parse md hd)
    have hl : lastS (baseT mb mi ms ++ distT md) (baseT mb mi ms ++ distT md).length = ((baseT mb mi ms).length : Int) := by
      rw [hcr]
      refine lastS_app _ c r hc (fun b hb => ?_)
      have := hr b hb
      have e1 : b ≠ 43 := fun e => by subst e; revert this; decide
      have e2 : b ≠ 45 := fun e => by subst e; revert this; decide
      simp [pm, e1, e2]
    have hA : insA (baseT mb mi ms ++ distT md) ((baseT mb mi ms).length : Int) = (md, baseT mb mi ms) := by
      unfold insA
      rw [Int.toNat_natCast, List.drop_left, List.take_left, if_pos ⟨by omega, hp.1⟩, hp.2]
    unfold insP
    rw [hl, hA]
    simp only [q1]
theorem inner_eq (X : List UInt8) : (((91 :: (X ++ [93])).drop 1).take ((91 :: (X ++ [93])).length - 1 - 1)) = X := by
  simp
theorem read_mem {mb mi ms md : Int} (h : Plc mb mi ms) (hd : I64' md) : readR (placeT mb mi ms md) = some (.m mb mi ms md) := by
  rw [placeT_eq]
  generalize hX : baseT mb mi ms ++ (if md = 0 then [] else distT md) = X
  have hb : brk (91 :: (X ++ [93])) = true := by
    unfold brk hasPrefix hasSuffix
    have h1 : ([91] : List UInt8).isPrefixOf (91 :: (X ++ [93])) = true := by simp [List.isPrefixOf]
    have h2 : ([93] : List UInt8).isSuffixOf (91 :: (X ++ [93])) = true := by
      rw [List.isSuffixOf_iff_suffix]
      exact ⟨91 :: X, by simp⟩
    rw [h1, h2]; simp
  unfold readR
  rw [regOf_no (by simp), if_neg (by decide), if_pos hb, inner_eq, ← hX, ins_mem h hd]
/-- An operand as instructions that may be have it. -/
def Opd.good : Opd → Prop
  | .r x => reg x = true
  | .n x => I64' x
  | .j x => I64' x
  | .m mb mi ms md => Plc mb mi ms ∧ I64' ms ∧ I64' md
def Cl (l : List UInt8) : Prop := l ≠ [] ∧ ∀ b ∈ l, b ≠ 44 ∧ b ≠ 32 ∧ b ≠ 10
theorem dig_cl {b : UInt8} (h : 48 ≤ b.toNat ∧ b.toNat ≤ 57) : b ≠ 44 ∧ b ≠ 32 ∧ b ≠ 10 :=
  ⟨fun e => by subst e; revert h; decide, fun e => by subst e; revert h; decide, fun e => by subst e; revert h; decide⟩
theorem reg_cl {r : Int} (h : reg r = true) : Cl (regT r) := by
  have hr : 0 ≤ r ∧ r ≤ 15 := by simpa [reg] using h
  obtain ⟨n, rfl⟩ := Int.eq_ofNat_of_zero_le hr.1
  have key : ∀ n : Nat, n < 16 → regT (n : Int) ≠ [] ∧ ∀ b ∈ regT (n : Int), b ≠ 44 ∧ b ≠ 32 ∧ b ≠ 10 := by decide +kernel
  exact key n (by omega)
theorem itoa_cl (n : Int) : Cl (itoa n) := by
  unfold itoa
  split
  · refine ⟨by simp, fun b hb => ?_⟩
    rcases List.mem_cons.1 hb with rfl | hb
    · decide
    · exact dig_cl (dec_dig _ b hb)
  · exact ⟨dec_ne _, fun b hb => dig_cl (dec_dig _ b hb)⟩
theorem dist_cl (n : Int) : Cl (distT n) := by
  unfold distT
  split
  · exact itoa_cl n
  · refine ⟨by simp, fun b hb => ?_⟩
    rcases List.mem_cons.1 hb with rfl | hb
    · decide
    · exact (itoa_cl n).2 b hb
theorem reg_in {r : Int} (h : 0 ≤ r ∧ r ≤ 15) : reg r = true := by simp [reg, h.1, h.2]
theorem place_cl {mb mi ms md : Int} (h : Plc mb mi ms) : Cl (placeT mb mi ms md) := by
  refine ⟨by rw [placeT_eq]; simp, fun b hb => ?_⟩
  unfold placeT at hb
  rcases List.mem_append.1 hb with hb | hb
  · rcases List.mem_append.1 hb with hb | hb
    · rcases List.mem_append.1 hb with hb | hb
      · rcases List.mem_append.1 hb with hb | hb
        · rw [List.mem_singleton] at hb; subst hb; decide
        · exact (reg_cl (reg_in h.1)).2 b hb
      · split at hb
        · cases hb
        · rename_i hm
          rcases List.mem_append.1 hb with hb | hb
          · rcases List.mem_append.1 hb with hb | hb
            · rcases List.mem_append.1 hb with hb | hb
              · rw [List.mem_singleton] at hb; subst hb; decide
              · exact (itoa_cl ms).2 b hb
            · rw [List.mem_singleton] at hb; subst hb; decide
          · rcases h.2 with ⟨h1, _⟩ | ⟨h1, h2, _⟩
            · exact absurd h1 hm
            · exact (reg_cl (reg_in ⟨h1, h2⟩)).2 b hb
    · split at hb
      · cases hb
      · exact (dist_cl md).2 b hb
  · rw [List.mem_singleton] at hb; subst hb; decide
theorem good_read {x : Opd} (h : x.good) : readR x.txt = some (norm x) ∧ Cl x.txt := by
  cases x with
  | r r => exact ⟨read_reg r h, reg_cl h⟩
  | n n => exact ⟨read_num n h, itoa_cl n⟩
  | j n => exact ⟨read_dist n h, dist_cl n⟩
  | m a b c d => exact ⟨read_mem h.1 h.2.2, place_cl h.1⟩
theorem occ_no {s sub : List UInt8} {c : UInt8} {q : List UInt8} (hs : sub = c :: q) {j : Nat} (h : s[j]? ≠ some c) : occAt s sub j = false := by
  unfold occAt
  subst hs
  cases hd : s.drop j with
  | nil => rfl
  | cons a r =>
    have : s[j]? = some a := by
      have e0 : s[j]? = (s.drop j)[0]? := by rw [List.getElem?_drop, Nat.add_zero]
      rw [e0, hd]; rfl
    have hne : ¬ c = a := fun e => h (by rw [this, e])
    simp [List.isPrefixOf, hne]
theorem cut_hit (a b : List UInt8) (c : UInt8) (q : List UInt8) (ha : c ∉ a) : cut (a ++ (c :: q) ++ b) (c :: q) = (a, b, true) := by
  have hi : index (a ++ (c :: q) ++ b) (c :: q) = (a.length : Int) := by
    refine index_first (by simp) ?_ (fun j hj => occ_no rfl ?_)
    · unfold occAt
      rw [List.append_assoc, List.drop_left, List.isPrefixOf_iff_prefix]
      exact ⟨b, rfl⟩
    · rw [List.append_assoc, List.getElem?_append_left hj]
      intro e
      exact ha (List.mem_of_getElem? e)
  unfold cut
  rw [hi, if_pos (by omega), Int.toNat_natCast]
  congr 1
  · rw [List.append_assoc, List.take_left]
  · congr 1
    have : (a ++ (c :: q) ++ b).drop (a ++ (c :: q)).length = b := List.drop_left
    rw [List.length_append] at this
    exact this
theorem cut_miss (a : List UInt8) (c : UInt8) (q : List UInt8) (ha : c ∉ a) : cut a (c :: q) = (a, [], false) := by
  have hi : index a (c :: q) = -1 := index_none (fun j _ => occ_no rfl (fun e => ha (List.mem_of_getElem? e)))
  unfold cut
  rw [hi, if_neg (by decide)]
theorem join_two (x y : List UInt8) (r : List (List UInt8)) (sep : List UInt8) : join (x :: y :: r) sep = x ++ sep ++ join (y :: r) sep := by
  rw [join_cons, join_cons, joinTail, joinTail, List.map_cons, List.flatten_cons]
  simp
/-- The operands of a text are read one by one. -/
theorem opsF_read : ∀ (xs : List Opd) (x : Opd) (f : Nat), (∀ z ∈ x :: xs, z.good) → xs.length + 1 ≤ f → opsF f (join ((x :: xs).map Opd.txt) [44, 32]) true = some ((x :: xs).map norm)
  | _, _, 0, _, hf => by omega
  | [], x, f + 1, h, _ => by
    obtain ⟨h1, h2⟩ := good_read (h x List.mem_cons_self)
    unfold opsF
    rw [List.map_singleton, join_one, cut_miss _ 44 [32] (fun e => (h2.2 44 e).1 rfl)]
    simp only [h1]
    cases f <;> rfl
  | y :: xs, x, f + 1, h, hf => by
    obtain ⟨h1, h2⟩ := good_read (h x List.mem_cons_self)
    have ih := opsF_read xs y f (fun z hz => h z (List.mem_cons_of_mem _ hz)) (by simp only [List.length_cons] at hf; omega)
    unfold opsF
    rw [List.map_cons, List.map_cons, join_two, cut_hit _ _ 44 [32] (fun e => (h2.2 44 e).1 rfl)]
    simp only [h1]
    rw [← List.map_cons, ih]
    rfl
theorem join_last : ∀ (xs : List Opd) (x : Opd), (∀ z ∈ x :: xs, z.good) → ∃ J b, join ((x :: xs).map Opd.txt) [44, 32] = J ++ [b] ∧ b ≠ 32
  | [], x, h => by
    obtain ⟨h1, h2⟩ := good_read (h x List.mem_cons_self)
    rw [List.map_singleton, join_one]
    refine ⟨x.txt.dropLast, x.txt.getLast h2.1, (List.dropLast_concat_getLast h2.1).symm, (h2.2 _ (List.getLast_mem h2.1)).2.1⟩
  | y :: xs, x, h => by
    obtain ⟨J, b, hJ, hb⟩ := join_last xs y (fun z hz => h z (List.mem_cons_of_mem _ hz))
    refine ⟨x.txt ++ [44, 32] ++ J, b, ?_, hb⟩
    rw [List.map_cons, List.map_cons, join_two, ← List.map_cons, hJ]
    simp
theorem reg_R {x : Int} (h : Reg x) : reg x = true := of_reg h
theorem plc_P {mb mi ms md : Int} (h : plc mb mi ms md = true) : Plc mb mi ms := by
  unfold plc at h
  simp only [Bool.and_eq_true] at h
  obtain ⟨⟨h1, h2⟩, h3⟩ := h
  have hr : ∀ {r : Int}, reg r = true → 0 ≤ r ∧ r ≤ 15 := fun {r} h => by simpa [reg] using h
  refine ⟨hr h1, ?_⟩
  split at h3
  · rename_i hm; exact .inl ⟨hm, by simpa using h3⟩
  · simp only [Bool.and_eq_true, decide_eq_true_eq] at h3
    exact .inr ⟨(hr h3.1.1).1, (hr h3.1.1).2, h3.2⟩
/-- What stands of an instruction that may be: good operands, of which it is filled again. -/
def Back (i : Ins) : Prop := (∀ x ∈ opds i, x.good) ∧ fillR i.op ((opds i).map norm) = i
theorem norm_two (x : Int) : norm (.n x) = .n x ∨ norm (.n x) = .j x := by unfold norm; simp only; split <;> simp
theorem back_1 (d s t mb mi ms md im : Int) (ho : Ins.ok ⟨1, d, s, t, mb, mi, ms, md, im⟩) (hc : chk 1 d s t mb mi ms md im = true) : Back ⟨1, d, s, t, mb, mi, ms, md, im⟩ := by
  rw [chk_1] at hc
  obtain ⟨rfl, hd, hs, rfl, ⟨rfl, rfl, rfl, rfl⟩⟩ := hc
  have e : opds ⟨1, d, s, 0, 0, 0, 0, 0, 0⟩ = [.r d, .r s] := rfl
  unfold Back
  rw [e]
  refine ⟨fun x hx => ?_, ?_⟩
  · simp only [List.mem_cons, List.not_mem_nil, or_false] at hx
    rcases hx with rfl | rfl
    · exact reg_R hd
    · exact reg_R hs
  · show fillR 1 [.r d, .r s] = _
    rfl
theorem back_2 (d s t mb mi ms md im : Int) (ho : Ins.ok ⟨2, d, s, t, mb, mi, ms, md, im⟩) (hc : chk 2 d s t mb mi ms md im = true) : Back ⟨2, d, s, t, mb, mi, ms, md, im⟩ := by
  rw [chk_2] at hc
  obtain ⟨hi, hd, rfl, rfl, ⟨rfl, rfl, rfl, rfl⟩⟩ := hc
  have e : opds ⟨2, d, 0, 0, 0, 0, 0, 0, im⟩ = [.r d, .n im] := rfl
  unfold Back
  rw [e]
  refine ⟨fun x hx => ?_, ?_⟩
  · simp only [List.mem_cons, List.not_mem_nil, or_false] at hx
    rcases hx with rfl | rfl
    · exact reg_R hd
    · exact ho.2.2
  · show fillR 2 [.r d, norm (.n im)] = _
    rcases norm_two im with h | h <;> rw [h] <;> rfl
theorem back_3 (d s t mb mi ms md im : Int) (ho : Ins.ok ⟨3, d, s, t, mb, mi, ms, md, im⟩) (hc : chk 3 d s t mb mi ms md im = true) : Back ⟨3, d, s, t, mb, mi, ms, md, im⟩ := by
  rw [chk_3] at hc
  obtain ⟨rfl, hd, rfl, rfl, hm⟩ := hc
  have e : opds ⟨3, d, 0, 0, mb, mi, ms, md, 0⟩ = [.r d, .m mb mi ms md] := rfl
  unfold Back
  rw [e]
  refine ⟨fun x hx => ?_, ?_⟩
  · simp only [List.mem_cons, List.not_mem_nil, or_false] at hx
    rcases hx with rfl | rfl
    · exact reg_R hd
    · exact ⟨plc_P hm, ho.1, ho.2.1⟩
  · show fillR 3 [.r d, .m mb mi ms md] = _
    rfl
theorem back_4 (d s t mb mi ms md im : Int) (ho : Ins.ok ⟨4, d, s, t, mb, mi, ms, md, im⟩) (hc : chk 4 d s t mb mi ms md im = true) : Back ⟨4, d, s, t, mb, mi, ms, md, im⟩ := by
  rw [chk_4] at hc
  obtain ⟨rfl, rfl, hs, rfl, hm⟩ := hc
  have e : opds ⟨4, 0, s, 0, mb, mi, ms, md, 0⟩ = [.m mb mi ms md, .r s] := rfl
  unfold Back
  rw [e]
  refine ⟨fun x hx => ?_, ?_⟩
  · simp only [List.mem_cons, List.not_mem_nil, or_false] at hx
    rcases hx with rfl | rfl
    · exact ⟨plc_P hm, ho.1, ho.2.1⟩
    · exact reg_R hs
  · show fillR 4 [.m mb mi ms md, .r s] = _
    rfl
theorem back_5 (d s t mb mi ms md im : Int) (ho : Ins.ok ⟨5, d, s, t, mb, mi, ms, md, im⟩) (hc : chk 5 d s t mb mi ms md im = true) : Back ⟨5, d, s, t, mb, mi, ms, md, im⟩ := by
  rw [chk_5] at hc
  obtain ⟨rfl, hd, rfl, rfl, hm⟩ := hc
  have e : opds ⟨5, d, 0, 0, mb, mi, ms, md, 0⟩ = [.r d, .m mb mi ms md] := rfl
  unfold Back
  rw [e]
  refine ⟨fun x hx => ?_, ?_⟩
  · simp only [List.mem_cons, List.not_mem_nil, or_false] at hx
    rcases hx with rfl | rfl
    · exact reg_R hd
    · exact ⟨plc_P hm, ho.1, ho.2.1⟩
  · show fillR 5 [.r d, .m mb mi ms md] = _
    rfl
theorem back_6 (d s t mb mi ms md im : Int) (ho : Ins.ok ⟨6, d, s, t, mb, mi, ms, md, im⟩) (hc : chk 6 d s t mb mi ms md im = true) : Back ⟨6, d, s, t, mb, mi, ms, md, im⟩ := by
  rw [chk_6] at hc
  obtain ⟨rfl, hd, hs, rfl, ⟨rfl, rfl, rfl, rfl⟩⟩ := hc
  have e : opds ⟨6, d, s, 0, 0, 0, 0, 0, 0⟩ = [.r d, .r s] := rfl
  unfold Back
  rw [e]
  refine ⟨fun x hx => ?_, ?_⟩
  · simp only [List.mem_cons, List.not_mem_nil, or_false] at hx
    rcases hx with rfl | rfl
    · exact reg_R hd
    · exact reg_R hs
  · show fillR 6 [.r d, .r s] = _
    rfl
theorem back_7 (d s t mb mi ms md im : Int) (ho : Ins.ok ⟨7, d, s, t, mb, mi, ms, md, im⟩) (hc : chk 7 d s t mb mi ms md im = true) : Back ⟨7, d, s, t, mb, mi, ms, md, im⟩ := by
  rw [chk_7] at hc
  obtain ⟨rfl, hd, hs, rfl, ⟨rfl, rfl, rfl, rfl⟩⟩ := hc
  have e : opds ⟨7, d, s, 0, 0, 0, 0, 0, 0⟩ = [.r d, .r s] := rfl
  unfold Back
  rw [e]
  refine ⟨fun x hx => ?_, ?_⟩
  · simp only [List.mem_cons, List.not_mem_nil, or_false] at hx
    rcases hx with rfl | rfl
    · exact reg_R hd
    · exact reg_R hs
  · show fillR 7 [.r d, .r s] = _
    rfl
theorem back_8 (d s t mb mi ms md im : Int) (ho : Ins.ok ⟨8, d, s, t, mb, mi, ms, md, im⟩) (hc : chk 8 d s t mb mi ms md im = true) : Back ⟨8, d, s, t, mb, mi, ms, md, im⟩ := by
  rw [chk_8] at hc
  obtain ⟨rfl, hd, hs, rfl, ⟨rfl, rfl, rfl, rfl⟩⟩ := hc
  have e : opds ⟨8, d, s, 0, 0, 0, 0, 0, 0⟩ = [.r d, .r s] := rfl
  unfold Back
  rw [e]
  refine ⟨fun x hx => ?_, ?_⟩
  · simp only [List.mem_cons, List.not_mem_nil, or_false] at hx
    rcases hx with rfl | rfl
    · exact reg_R hd
    · exact reg_R hs
  · show fillR 8 [.r d, .r s] = _
    rfl
theorem back_9 (d s t mb mi ms md im : Int) (ho : Ins.ok ⟨9, d, s, t, mb, mi, ms, md, im⟩) (hc : chk 9 d s t mb mi ms md im = true) : Back ⟨9, d, s, t, mb, mi, ms, md, im⟩ := by
  rw [chk_9] at hc
  obtain ⟨rfl, hd, hs, rfl, ⟨rfl, rfl, rfl, rfl⟩⟩ := hc
  have e : opds ⟨9, d, s, 0, 0, 0, 0, 0, 0⟩ = [.r d, .r s] := rfl
  unfold Back
  rw [e]
  refine ⟨fun x hx => ?_, ?_⟩
  · simp only [List.mem_cons, List.not_mem_nil, or_false] at hx
    rcases hx with rfl | rfl
    · exact reg_R hd
    · exact reg_R hs
  · show fillR 9 [.r d, .r s] = _
    rfl
theorem back_10 (d s t mb mi ms md im : Int) (ho : Ins.ok ⟨10, d, s, t, mb, mi, ms, md, im⟩) (hc : chk 10 d s t mb mi ms md im = true) : Back ⟨10, d, s, t, mb, mi, ms, md, im⟩ := by
  rw [chk_10] at hc
  obtain ⟨rfl, hd, hs, rfl, ⟨rfl, rfl, rfl, rfl⟩⟩ := hc
  have e : opds ⟨10, d, s, 0, 0, 0, 0, 0, 0⟩ = [.r d, .r s] := rfl
  unfold Back
  rw [e]
  refine ⟨fun x hx => ?_, ?_⟩
  · simp only [List.mem_cons, List.not_mem_nil, or_false] at hx
    rcases hx with rfl | rfl
    · exact reg_R hd
    · exact reg_R hs
  · show fillR 10 [.r d, .r s] = _
    rfl
theorem back_11 (d s t mb mi ms md im : Int) (ho : Ins.ok ⟨11, d, s, t, mb, mi, ms, md, im⟩) (hc : chk 11 d s t mb mi ms md im = true) : Back ⟨11, d, s, t, mb, mi, ms, md, im⟩ := by
  rw [chk_11] at hc
  obtain ⟨rfl, hd, hs, rfl, ⟨rfl, rfl, rfl, rfl⟩⟩ := hc
  have e : opds ⟨11, d, s, 0, 0, 0, 0, 0, 0⟩ = [.r d, .r s] := rfl
  unfold Back
  rw [e]
  refine ⟨fun x hx => ?_, ?_⟩
  · simp only [List.mem_cons, List.not_mem_nil, or_false] at hx
    rcases hx with rfl | rfl
    · exact reg_R hd
    · exact reg_R hs
  · show fillR 11 [.r d, .r s] = _
    rfl
theorem back_12 (d s t mb mi ms md im : Int) (ho : Ins.ok ⟨12, d, s, t, mb, mi, ms, md, im⟩) (hc : chk 12 d s t mb mi ms md im = true) : Back ⟨12, d, s, t, mb, mi, ms, md, im⟩ := by
  rw [chk_12] at hc
  obtain ⟨rfl, hd, hs, rfl, ⟨rfl, rfl, rfl, rfl⟩⟩ := hc
  have e : opds ⟨12, d, s, 0, 0, 0, 0, 0, 0⟩ = [.r d, .r s] := rfl
  unfold Back
  rw [e]
  refine ⟨fun x hx => ?_, ?_⟩
  · simp only [List.mem_cons, List.not_mem_nil, or_false] at hx
    rcases hx with rfl | rfl
    · exact reg_R hd
    · exact reg_R hs
  · show fillR 12 [.r d, .r s] = _
    rfl
theorem back_13 (d s t mb mi ms md im : Int) (ho : Ins.ok ⟨13, d, s, t, mb, mi, ms, md, im⟩) (hc : chk 13 d s t mb mi ms md im = true) : Back ⟨13, d, s, t, mb, mi, ms, md, im⟩ := by
  rw [chk_13] at hc
  obtain ⟨rfl, hd, hs, rfl, ⟨rfl, rfl, rfl, rfl⟩⟩ := hc
  have e : opds ⟨13, d, s, 0, 0, 0, 0, 0, 0⟩ = [.r d, .r s] := rfl
  unfold Back
  rw [e]
  refine ⟨fun x hx => ?_, ?_⟩
  · simp only [List.mem_cons, List.not_mem_nil, or_false] at hx
    rcases hx with rfl | rfl
    · exact reg_R hd
    · exact reg_R hs
  · show fillR 13 [.r d, .r s] = _
    rfl
theorem back_14 (d s t mb mi ms md im : Int) (ho : Ins.ok ⟨14, d, s, t, mb, mi, ms, md, im⟩) (hc : chk 14 d s t mb mi ms md im = true) : Back ⟨14, d, s, t, mb, mi, ms, md, im⟩ := by
  rw [chk_14] at hc
  obtain ⟨rfl, hd, hs, rfl, ⟨rfl, rfl, rfl, rfl⟩⟩ := hc
  have e : opds ⟨14, d, s, 0, 0, 0, 0, 0, 0⟩ = [.r d, .r s] := rfl
  unfold Back
  rw [e]
  refine ⟨fun x hx => ?_, ?_⟩
  · simp only [List.mem_cons, List.not_mem_nil, or_false] at hx
    rcases hx with rfl | rfl
    · exact reg_R hd
    · exact reg_R hs
  · show fillR 14 [.r d, .r s] = _
    rfl
theorem back_15 (d s t mb mi ms md im : Int) (ho : Ins.ok ⟨15, d, s, t, mb, mi, ms, md, im⟩) (hc : chk 15 d s t mb mi ms md im = true) : Back ⟨15, d, s, t, mb, mi, ms, md, im⟩ := by
  rw [chk_15] at hc
  obtain ⟨hi, hd, rfl, rfl, ⟨rfl, rfl, rfl, rfl⟩⟩ := hc
  have e : opds ⟨15, d, 0, 0, 0, 0, 0, 0, im⟩ = [.r d, .n im] := rfl
  unfold Back
  rw [e]
  refine ⟨fun x hx => ?_, ?_⟩
  · simp only [List.mem_cons, List.not_mem_nil, or_false] at hx
    rcases hx with rfl | rfl
    · exact reg_R hd
    · exact ho.2.2
  · show fillR 15 [.r d, norm (.n im)] = _
    rcases norm_two im with h | h <;> rw [h] <;> rfl
theorem back_16 (d s t mb mi ms md im : Int) (ho : Ins.ok ⟨16, d, s, t, mb, mi, ms, md, im⟩) (hc : chk 16 d s t mb mi ms md im = true) : Back ⟨16, d, s, t, mb, mi, ms, md, im⟩ := by
  rw [chk_16] at hc
  obtain ⟨hi, hd, rfl, rfl, ⟨rfl, rfl, rfl, rfl⟩⟩ := hc
  have e : opds ⟨16, d, 0, 0, 0, 0, 0, 0, im⟩ = [.r d, .n im] := rfl
  unfold Back
  rw [e]
  refine ⟨fun x hx => ?_, ?_⟩
  · simp only [List.mem_cons, List.not_mem_nil, or_false] at hx
    rcases hx with rfl | rfl
    · exact reg_R hd
    · exact ho.2.2
  · show fillR 16 [.r d, norm (.n im)] = _
    rcases norm_two im with h | h <;> rw [h] <;> rfl
theorem back_17 (d s t mb mi ms md im : Int) (ho : Ins.ok ⟨17, d, s, t, mb, mi, ms, md, im⟩) (hc : chk 17 d s t mb mi ms md im = true) : Back ⟨17, d, s, t, mb, mi, ms, md, im⟩ := by
  rw [chk_17] at hc
  obtain ⟨hi, hd, rfl, rfl, ⟨rfl, rfl, rfl, rfl⟩⟩ := hc
  have e : opds ⟨17, d, 0, 0, 0, 0, 0, 0, im⟩ = [.r d, .n im] := rfl
  unfold Back
  rw [e]
  refine ⟨fun x hx => ?_, ?_⟩
  · simp only [List.mem_cons, List.not_mem_nil, or_false] at hx
    rcases hx with rfl | rfl
    · exact reg_R hd
    · exact ho.2.2
  · show fillR 17 [.r d, norm (.n im)] = _
    rcases norm_two im with h | h <;> rw [h] <;> rfl
theorem back_18 (d s t mb mi ms md im : Int) (ho : Ins.ok ⟨18, d, s, t, mb, mi, ms, md, im⟩) (hc : chk 18 d s t mb mi ms md im = true) : Back ⟨18, d, s, t, mb, mi, ms, md, im⟩ := by
  rw [chk_18] at hc
  obtain ⟨hi, hd, rfl, rfl, ⟨rfl, rfl, rfl, rfl⟩⟩ := hc
  have e : opds ⟨18, d, 0, 0, 0, 0, 0, 0, im⟩ = [.r d, .n im] := rfl
  unfold Back
  rw [e]
  refine ⟨fun x hx => ?_, ?_⟩
  · simp only [List.mem_cons, List.not_mem_nil, or_false] at hx
    rcases hx with rfl | rfl
    · exact reg_R hd
    · exact ho.2.2
  · show fillR 18 [.r d, norm (.n im)] = _
    rcases norm_two im with h | h <;> rw [h] <;> rfl
theorem back_19 (d s t mb mi ms md im : Int) (ho : Ins.ok ⟨19, d, s, t, mb, mi, ms, md, im⟩) (hc : chk 19 d s t mb mi ms md im = true) : Back ⟨19, d, s, t, mb, mi, ms, md, im⟩ := by
  rw [chk_19] at hc
  obtain ⟨rfl, hd, hs, ht, ⟨rfl, rfl, rfl, rfl⟩, _⟩ := hc
  have e : opds ⟨19, d, s, t, 0, 0, 0, 0, 0⟩ = [.r d, .r s, .r t] := rfl
  unfold Back
  rw [e]
  refine ⟨fun x hx => ?_, ?_⟩
  · simp only [List.mem_cons, List.not_mem_nil, or_false] at hx
    rcases hx with rfl | rfl | rfl
    · exact reg_R hd
    · exact reg_R hs
    · exact reg_R ht
  · show fillR 19 [.r d, .r s, .r t] = _
    rfl
theorem back_20 (d s t mb mi ms md im : Int) (ho : Ins.ok ⟨20, d, s, t, mb, mi, ms, md, im⟩) (hc : chk 20 d s t mb mi ms md im = true) : Back ⟨20, d, s, t, mb, mi, ms, md, im⟩ := by
  rw [chk_20] at hc
  obtain ⟨rfl, hd, hs, rfl, ⟨rfl, rfl, rfl, rfl⟩⟩ := hc
  have e : opds ⟨20, d, s, 0, 0, 0, 0, 0, 0⟩ = [.r d, .r s] := rfl
  unfold Back
  rw [e]
  refine ⟨fun x hx => ?_, ?_⟩
  · simp only [List.mem_cons, List.not_mem_nil, or_false] at hx
    rcases hx with rfl | rfl
    · exact reg_R hd
    · exact reg_R hs
  · show fillR 20 [.r d, .r s] = _
    rfl
theorem back_21 (d s t mb mi ms md im : Int) (ho : Ins.ok ⟨21, d, s, t, mb, mi, ms, md, im⟩) (hc : chk 21 d s t mb mi ms md im = true) : Back ⟨21, d, s, t, mb, mi, ms, md, im⟩ := by
  rw [chk_21] at hc
  obtain ⟨rfl, hd, hs, rfl, ⟨rfl, rfl, rfl, rfl⟩⟩ := hc
  have e : opds ⟨21, d, s, 0, 0, 0, 0, 0, 0⟩ = [.r d, .r s] := rfl
  unfold Back
  rw [e]
  refine ⟨fun x hx => ?_, ?_⟩
  · simp only [List.mem_cons, List.not_mem_nil, or_false] at hx
    rcases hx with rfl | rfl
    · exact reg_R hd
    · exact reg_R hs
  · show fillR 21 [.r d, .r s] = _
    rfl
theorem back_22 (d s t mb mi ms md im : Int) (ho : Ins.ok ⟨22, d, s, t, mb, mi, ms, md, im⟩) (hc : chk 22 d s t mb mi ms md im = true) : Back ⟨22, d, s, t, mb, mi, ms, md, im⟩ := by
  rw [chk_22] at hc
  obtain ⟨rfl, hd, rfl, rfl, ⟨rfl, rfl, rfl, rfl⟩⟩ := hc
  have e : opds ⟨22, d, 0, 0, 0, 0, 0, 0, 0⟩ = [.r d] := rfl
  unfold Back
  rw [e]
  refine ⟨fun x hx => ?_, ?_⟩
  · simp only [List.mem_cons, List.not_mem_nil, or_false] at hx
    subst hx; exact reg_R hd
  · show fillR 22 [.r d] = _
    rfl
theorem back_23 (d s t mb mi ms md im : Int) (ho : Ins.ok ⟨23, d, s, t, mb, mi, ms, md, im⟩) (hc : chk 23 d s t mb mi ms md im = true) : Back ⟨23, d, s, t, mb, mi, ms, md, im⟩ := by
  rw [chk_23] at hc
  obtain ⟨rfl, hd, rfl, rfl, ⟨rfl, rfl, rfl, rfl⟩⟩ := hc
  have e : opds ⟨23, d, 0, 0, 0, 0, 0, 0, 0⟩ = [.r d] := rfl
  unfold Back
  rw [e]
  refine ⟨fun x hx => ?_, ?_⟩
  · simp only [List.mem_cons, List.not_mem_nil, or_false] at hx
    subst hx; exact reg_R hd
  · show fillR 23 [.r d] = _
    rfl
theorem back_24 (d s t mb mi ms md im : Int) (ho : Ins.ok ⟨24, d, s, t, mb, mi, ms, md, im⟩) (hc : chk 24 d s t mb mi ms md im = true) : Back ⟨24, d, s, t, mb, mi, ms, md, im⟩ := by
  rw [chk_24] at hc
  obtain ⟨hi, hd, rfl, rfl, ⟨rfl, rfl, rfl, rfl⟩⟩ := hc
  have e : opds ⟨24, d, 0, 0, 0, 0, 0, 0, im⟩ = [.r d, .n im] := rfl
  unfold Back
  rw [e]
  refine ⟨fun x hx => ?_, ?_⟩
  · simp only [List.mem_cons, List.not_mem_nil, or_false] at hx
    rcases hx with rfl | rfl
    · exact reg_R hd
    · exact ho.2.2
  · show fillR 24 [.r d, norm (.n im)] = _
    rcases norm_two im with h | h <;> rw [h] <;> rfl
theorem back_25 (d s t mb mi ms md im : Int) (ho : Ins.ok ⟨25, d, s, t, mb, mi, ms, md, im⟩) (hc : chk 25 d s t mb mi ms md im = true) : Back ⟨25, d, s, t, mb, mi, ms, md, im⟩ := by
  rw [chk_25] at hc
  obtain ⟨hi, hd, rfl, rfl, ⟨rfl, rfl, rfl, rfl⟩⟩ := hc
  have e : opds ⟨25, d, 0, 0, 0, 0, 0, 0, im⟩ = [.r d, .n im] := rfl
  unfold Back
  rw [e]
  refine ⟨fun x hx => ?_, ?_⟩
  · simp only [List.mem_cons, List.not_mem_nil, or_false] at hx
    rcases hx with rfl | rfl
    · exact reg_R hd
    · exact ho.2.2
  · show fillR 25 [.r d, norm (.n im)] = _
    rcases norm_two im with h | h <;> rw [h] <;> rfl
theorem back_26 (d s t mb mi ms md im : Int) (ho : Ins.ok ⟨26, d, s, t, mb, mi, ms, md, im⟩) (hc : chk 26 d s t mb mi ms md im = true) : Back ⟨26, d, s, t, mb, mi, ms, md, im⟩ := by
  rw [chk_26] at hc
  obtain ⟨rfl, hd, hs, rfl, ⟨rfl, rfl, rfl, rfl⟩⟩ := hc
  have e : opds ⟨26, d, s, 0, 0, 0, 0, 0, 0⟩ = [.r d, .r s] := rfl
  unfold Back
  rw [e]
  refine ⟨fun x hx => ?_, ?_⟩
  · simp only [List.mem_cons, List.not_mem_nil, or_false] at hx
    rcases hx with rfl | rfl
    · exact reg_R hd
    · exact reg_R hs
  · show fillR 26 [.r d, .r s] = _
    rfl
theorem back_27 (d s t mb mi ms md im : Int) (ho : Ins.ok ⟨27, d, s, t, mb, mi, ms, md, im⟩) (hc : chk 27 d s t mb mi ms md im = true) : Back ⟨27, d, s, t, mb, mi, ms, md, im⟩ := by
  rw [chk_27] at hc
  obtain ⟨rfl, hd, hs, rfl, ⟨rfl, rfl, rfl, rfl⟩⟩ := hc
  have e : opds ⟨27, d, s, 0, 0, 0, 0, 0, 0⟩ = [.r d, .r s] := rfl
  unfold Back
  rw [e]
  refine ⟨fun x hx => ?_, ?_⟩
  · simp only [List.mem_cons, List.not_mem_nil, or_false] at hx
    rcases hx with rfl | rfl
    · exact reg_R hd
    · exact reg_R hs
  · show fillR 27 [.r d, .r s] = _
    rfl
theorem back_28 (d s t mb mi ms md im : Int) (ho : Ins.ok ⟨28, d, s, t, mb, mi, ms, md, im⟩) (hc : chk 28 d s t mb mi ms md im = true) : Back ⟨28, d, s, t, mb, mi, ms, md, im⟩ := by
  rw [chk_28] at hc
  obtain ⟨rfl, rfl, hs, rfl, ⟨rfl, rfl, rfl, rfl⟩⟩ := hc
  have e : opds ⟨28, 0, s, 0, 0, 0, 0, 0, 0⟩ = [.r s] := rfl
  unfold Back
  rw [e]
  refine ⟨fun x hx => ?_, ?_⟩
  · simp only [List.mem_cons, List.not_mem_nil, or_false] at hx
    subst hx; exact reg_R hs
  · show fillR 28 [.r s] = _
    rfl
theorem back_29 (d s t mb mi ms md im : Int) (ho : Ins.ok ⟨29, d, s, t, mb, mi, ms, md, im⟩) (hc : chk 29 d s t mb mi ms md im = true) : Back ⟨29, d, s, t, mb, mi, ms, md, im⟩ := by
  rw [chk_29] at hc
  obtain ⟨rfl, hd, rfl, rfl, ⟨rfl, rfl, rfl, rfl⟩⟩ := hc
  have e : opds ⟨29, d, 0, 0, 0, 0, 0, 0, 0⟩ = [.r d] := rfl
  unfold Back
  rw [e]
  refine ⟨fun x hx => ?_, ?_⟩
  · simp only [List.mem_cons, List.not_mem_nil, or_false] at hx
    subst hx; exact reg_R hd
  · show fillR 29 [.r d] = _
    rfl
theorem back_30 (d s t mb mi ms md im : Int) (ho : Ins.ok ⟨30, d, s, t, mb, mi, ms, md, im⟩) (hc : chk 30 d s t mb mi ms md im = true) : Back ⟨30, d, s, t, mb, mi, ms, md, im⟩ := by
  rw [chk_30] at hc
  obtain ⟨hi, rfl, rfl, rfl, ⟨rfl, rfl, rfl, rfl⟩⟩ := hc
  have e : opds ⟨30, 0, 0, 0, 0, 0, 0, 0, im⟩ = [.j im] := rfl
  unfold Back
  rw [e]
  refine ⟨fun x hx => ?_, ?_⟩
  · simp only [List.mem_cons, List.not_mem_nil, or_false] at hx
    subst hx; exact ho.2.2
  · show fillR 30 [.j im] = _
    rfl
theorem back_31 (d s t mb mi ms md im : Int) (ho : Ins.ok ⟨31, d, s, t, mb, mi, ms, md, im⟩) (hc : chk 31 d s t mb mi ms md im = true) : Back ⟨31, d, s, t, mb, mi, ms, md, im⟩ := by
  rw [chk_31] at hc
  obtain ⟨hi, rfl, rfl, rfl, ⟨rfl, rfl, rfl, rfl⟩⟩ := hc
  have e : opds ⟨31, 0, 0, 0, 0, 0, 0, 0, im⟩ = [.j im] := rfl
  unfold Back
  rw [e]
  refine ⟨fun x hx => ?_, ?_⟩
  · simp only [List.mem_cons, List.not_mem_nil, or_false] at hx
    subst hx; exact ho.2.2
  · show fillR 31 [.j im] = _
    rfl
theorem back_32 (d s t mb mi ms md im : Int) (ho : Ins.ok ⟨32, d, s, t, mb, mi, ms, md, im⟩) (hc : chk 32 d s t mb mi ms md im = true) : Back ⟨32, d, s, t, mb, mi, ms, md, im⟩ := by
  rw [chk_32] at hc
  obtain ⟨hi, rfl, rfl, rfl, ⟨rfl, rfl, rfl, rfl⟩⟩ := hc
  have e : opds ⟨32, 0, 0, 0, 0, 0, 0, 0, im⟩ = [.j im] := rfl
  unfold Back
  rw [e]
  refine ⟨fun x hx => ?_, ?_⟩
  · simp only [List.mem_cons, List.not_mem_nil, or_false] at hx
    subst hx; exact ho.2.2
  · show fillR 32 [.j im] = _
    rfl
theorem back_33 (d s t mb mi ms md im : Int) (ho : Ins.ok ⟨33, d, s, t, mb, mi, ms, md, im⟩) (hc : chk 33 d s t mb mi ms md im = true) : Back ⟨33, d, s, t, mb, mi, ms, md, im⟩ := by
  rw [chk_33] at hc
  obtain ⟨rfl, rfl, rfl, rfl, ⟨rfl, rfl, rfl, rfl⟩⟩ := hc
  have e : opds ⟨33, 0, 0, 0, 0, 0, 0, 0, 0⟩ = [] := rfl
  unfold Back
  rw [e]
  refine ⟨fun x hx => ?_, ?_⟩
  · cases hx
  · show fillR 33 [] = _
    rfl
theorem back_all (i : Ins) (ho : i.ok) (hc : i.chk = true) : Back i := by
  obtain ⟨op, d, s, t, mb, mi, ms, md, im⟩ := i
  have hr := chk_range hc
  unfold Ins.chk at hc
  simp only at hc hr
  rcases (by omega : op = 1 ∨ op = 2 ∨ op = 3 ∨ op = 4 ∨ op = 5 ∨ op = 6 ∨ op = 7 ∨ op = 8 ∨ op = 9 ∨ op = 10 ∨ op = 11 ∨ op = 12 ∨ op = 13 ∨ op = 14 ∨ op = 15 ∨ op = 16 ∨ op = 17 ∨ op = 18 ∨ op = 19 ∨ op = 20 ∨ op = 21 ∨ op = 22 ∨ op = 23 ∨ op = 24 ∨ op = 25 ∨ op = 26 ∨ op = 27 ∨ op = 28 ∨ op = 29 ∨ op = 30 ∨ op = 31 ∨ op = 32 ∨ op = 33) with rfl | rfl | rfl | rfl | rfl | rfl | rfl | rfl | rfl | rfl | rfl | rfl | rfl | rfl | rfl | rfl | rfl | rfl | rfl | rfl | rfl | rfl | rfl | rfl | rfl | rfl | rfl | rfl | rfl | rfl | rfl | rfl | rfl
  · exact back_1 d s t mb mi ms md im ho hc
  · exact back_2 d s t mb mi ms md im ho hc
  · exact back_3 d s t mb mi ms md im ho hc
  · exact back_4 d s t mb mi ms md im ho hc
  · exact back_5 d s t mb mi ms md im ho hc
  · exact back_6 d s t mb mi ms md im ho hc
  · exact back_7 d s t mb mi ms md im ho hc
  · exact back_8 d s t mb mi ms md im ho hc
  · exact back_9 d s t mb mi ms md im ho hc
  · exact back_10 d s t mb mi ms md im ho hc
  · exact back_11 d s t mb mi ms md im ho hc
  · exact back_12 d s t mb mi ms md im ho hc
  · exact back_13 d s t mb mi ms md im ho hc
  · exact back_14 d s t mb mi ms md im ho hc
  · exact back_15 d s t mb mi ms md im ho hc
  · exact back_16 d s t mb mi ms md im ho hc
  · exact back_17 d s t mb mi ms md im ho hc
  · exact back_18 d s t mb mi ms md im ho hc
  · exact back_19 d s t mb mi ms md im ho hc
  · exact back_20 d s t mb mi ms md im ho hc
  · exact back_21 d s t mb mi ms md im ho hc
  · exact back_22 d s t mb mi ms md im ho hc
  · exact back_23 d s t mb mi ms md im ho hc
  · exact back_24 d s t mb mi ms md im ho hc
  · exact back_25 d s t mb mi ms md im ho hc
  · exact back_26 d s t mb mi ms md im ho hc
  · exact back_27 d s t mb mi ms md im ho hc
  · exact back_28 d s t mb mi ms md im ho hc
  · exact back_29 d s t mb mi ms md im ho hc
  · exact back_30 d s t mb mi ms md im ho hc
  · exact back_31 d s t mb mi ms md im ho hc
  · exact back_32 d s t mb mi ms md im ho hc
  · exact back_33 d s t mb mi ms md im ho hc
theorem name_cl (op : Int) (h : 1 ≤ op ∧ op ≤ 33) : ∀ b ∈ nameT op, b ≠ 32 := by
  obtain ⟨n, rfl⟩ := Int.eq_ofNat_of_zero_le (by omega : 0 ≤ op)
  have key : ∀ n : Nat, n < 34 → ∀ b ∈ nameT (n : Int), b ≠ 32 := by decide +kernel
  exact key n (by omega)
theorem name_ret : ∀ op : Nat, op < 34 → shapeB (op : Int) = [] → 1 ≤ op → hasSuffix (nameT (op : Int) ++ [32] ++ []) [32] = true := by decide +kernel
/-- An instruction's text: its name, a blank, its operands. -/
theorem instT_eq (i : Ins) (ho : i.ok) (hc : i.chk = true) : (opds i = [] ∧ instT i = nameT i.op) ∨ (opds i ≠ [] ∧ instT i = nameT i.op ++ [32] ++ join ((opds i).map Opd.txt) [44, 32]) := by
  obtain ⟨hg, _⟩ := back_all i ho hc
  unfold instT
  cases he : opds i with
  | nil =>
    refine .inl ⟨rfl, ?_⟩
    rw [List.map_nil, join_nil, List.append_nil]
    unfold trimSuffix
    have : hasSuffix (nameT i.op ++ [32]) [32] = true := by
      unfold hasSuffix; rw [List.isSuffixOf_iff_suffix]; exact ⟨nameT i.op, rfl⟩
    rw [if_pos this]
    simp
  | cons x xs =>
    refine .inr ⟨by simp, ?_⟩
    obtain ⟨J, b, hJ, hb⟩ := join_last xs x (by rw [← he]; exact hg)
    rw [hJ]
    unfold trimSuffix
    have : hasSuffix (nameT i.op ++ [32] ++ (J ++ [b])) [32] = false := by
      unfold hasSuffix
      refine Bool.eq_false_iff.2 fun h => ?_
      rw [List.isSuffixOf_iff_suffix] at h
      obtain ⟨t, ht⟩ := h
      rw [← List.append_assoc] at ht
      have := List.append_inj_right' ht rfl
      exact hb (by simpa using this.symm)
    rw [if_neg (by rw [this]; decide)]
theorem cut_inst (i : Ins) (ho : i.ok) (hc : i.chk = true) : (cut (instT i) [32]).1 = nameT i.op ∧ opsOf (instT i) = some ((opds i).map norm) := by
  have hr := chk_range hc
  have hn : (32 : UInt8) ∉ nameT i.op := fun h => name_cl i.op hr 32 h rfl
  obtain ⟨hg, _⟩ := back_all i ho hc
  unfold opsOf
  rcases instT_eq i ho hc with ⟨h1, h2⟩ | ⟨h1, h2⟩
  · rw [h2, h1, cut_miss _ 32 [] hn]
    refine ⟨rfl, ?_⟩
    unfold opsF; rfl
  · obtain ⟨x, xs, hx⟩ := List.exists_cons_of_ne_nil h1
    rw [h2, cut_hit _ _ 32 [] hn]
    refine ⟨rfl, ?_⟩
    simp only
    rw [hx]
    refine opsF_read xs x _ (by rw [← hx]; exact hg) ?_
    have h3 : (opds i).length ≤ 3 := by unfold opds; rw [List.length_map]; exact shape_len i.op
    rw [hx] at h3
    have h4 : 2 ≤ (nameT i.op).length := by
      obtain ⟨n, hn⟩ := Int.eq_ofNat_of_zero_le (by omega : 0 ≤ i.op)
      have key : ∀ n : Nat, n < 34 → 1 ≤ n → 2 ≤ (nameT (n : Int)).length := by decide +kernel
      rw [hn]
      exact key n (by omega) (by omega)
    simp only [List.length_cons, List.length_append, List.length_nil] at h3 ⊢
    omega
def kindC (c : UInt8) : Nat := if c = 77 then 1 else if c = 110 ∨ c = 106 then 2 else 0
def kindO : Opd → Nat
  | .r _ => 0
  | .m _ _ _ _ => 1
  | _ => 2
theorem kind_opds (i : Ins) : ((opds i).map norm).map kindO = (shapeB i.op).map kindC := by
  unfold opds
  rw [List.map_map, List.map_map]
  refine List.map_congr_left fun c hc => ?_
  have := shape_in i.op c hc
  rcases this with rfl | rfl | rfl | rfl | rfl | rfl <;> first | rfl | (show kindO (norm (.n i.im)) = 2; rcases norm_two i.im with h | h <;> rw [h] <;> rfl)
set_option maxRecDepth 100000 in
theorem kind_all : ((List.range 34).all fun a => (List.range 34).all fun b => a == 0 || b == 0 || !(nameT (a : Int) == nameT (b : Int)) || !((shapeB (a : Int)).map kindC == (shapeB (b : Int)).map kindC) || a == b) = true := by decide +kernel
theorem kind_dec (a : Nat) (ha : a < 34) (b : Nat) (hb : b < 34) (h1 : 1 ≤ a) (h2 : 1 ≤ b) (hn : nameT (a : Int) = nameT (b : Int)) (hk : (shapeB (a : Int)).map kindC = (shapeB (b : Int)).map kindC) : a = b := by
  have h := List.all_eq_true.1 (List.all_eq_true.1 kind_all a (List.mem_range.2 ha)) b (List.mem_range.2 hb)
  rw [hn, hk] at h
  have e1 : (a == 0) = false := by simp; omega
  have e2 : (b == 0) = false := by simp; omega
  simpa [e1, e2] using h
/-- Unlike instructions have unlike texts. -/
theorem inst_inj (i k : Ins) (hi : i.ok) (hk : k.ok) (ci : i.chk = true) (ck : k.chk = true) (h : instT i = instT k) : i = k := by
  obtain ⟨a1, a2⟩ := cut_inst i hi ci
  obtain ⟨b1, b2⟩ := cut_inst k hk ck
  rw [h] at a1 a2
  have hn : nameT i.op = nameT k.op := a1.symm.trans b1
  have ho : (opds i).map norm = (opds k).map norm := Option.some.inj (a2.symm.trans b2)
  have hK : (shapeB i.op).map kindC = (shapeB k.op).map kindC := by rw [← kind_opds, ← kind_opds, ho]
  have r1 := chk_range ci
  have r2 := chk_range ck
  have hop : i.op = k.op := by
    obtain ⟨m, hm⟩ := Int.eq_ofNat_of_zero_le (by omega : 0 ≤ i.op)
    obtain ⟨n, hn'⟩ := Int.eq_ofNat_of_zero_le (by omega : 0 ≤ k.op)
    rw [hm, hn'] at hn hK ⊢
    rw [kind_dec m (by omega) n (by omega) (by omega) (by omega) hn hK]
  rw [← (back_all i hi ci).2, ← (back_all k hk ck).2, ho, hop]
theorem candF_hit (l : List Opd) (s name : List UInt8) (i : Ins) (k : Nat) (h1 : nameT (k : Int) = name) (h2 : fillR (k : Int) l = i) (h3 : i.chk = true) (h4 : instT i = s)
    (hu : ∀ op : Nat, (fillR (op : Int) l).chk = true → instT (fillR (op : Int) l) = s → fillR (op : Int) l = i) : ∀ f op : Nat, op ≤ k → k < op + f → candF l s name f op = some i
  | 0, op, ha, hb => by omega
  | f + 1, op, ha, hb => by
    unfold candF
    split
    · rename_i h; rw [hu op h.2.1 h.2.2]
    · rename_i h
      refine candF_hit l s name i k h1 h2 h3 h4 hu f (op + 1) ?_ (by omega)
      rcases Nat.lt_or_ge op k with hlt | hge
      · exact hlt
      · exfalso
        obtain rfl : op = k := by omega
        exact h ⟨h1, by rw [h2]; exact h3, by rw [h2]; exact h4⟩
/-- **An instruction's text is read as the instruction.** -/
theorem read_back (i : Ins) (ho : i.ok) (hc : i.chk = true) : readI (instT i) = some i := by
  obtain ⟨a1, a2⟩ := cut_inst i ho hc
  obtain ⟨hg, hf⟩ := back_all i ho hc
  have hr := chk_range hc
  unfold readI
  rw [a2, a1]
  simp only
  obtain ⟨k, hk⟩ := Int.eq_ofNat_of_zero_le (by omega : 0 ≤ i.op)
  rw [hk] at hf ⊢
  refine candF_hit _ _ _ i k rfl hf hc rfl (fun op h1 h2 => ?_) 33 1 (by omega) (by omega)
  exact inst_inj _ i (fillR_ok _ _ (opsF_ok _ _ _ _ a2)) ho h1 hc h2
/-- What is read is told by its text, and no other is. -/
theorem readI_iff (s : List UInt8) (i : Ins) : readI s = some i ↔ i.ok ∧ i.chk = true ∧ instT i = s :=
  ⟨readI_is, fun ⟨h1, h2, h3⟩ => by rw [← h3]; exact read_back i h1 h2⟩
theorem join_mem : ∀ (xs : List Opd) (b : UInt8), b ∈ join (xs.map Opd.txt) [44, 32] → b = 44 ∨ b = 32 ∨ ∃ x ∈ xs, b ∈ x.txt
  | [], b, h => by cases h
  | [x], b, h => by
    rw [List.map_singleton, join_one] at h
    exact .inr (.inr ⟨x, List.mem_cons_self, h⟩)
  | x :: y :: xs, b, h => by
    rw [List.map_cons, List.map_cons, join_two, ← List.map_cons] at h
    rcases List.mem_append.1 h with h | h
    · rcases List.mem_append.1 h with h | h
      · exact .inr (.inr ⟨x, List.mem_cons_self, h⟩)
      · simp only [List.mem_cons, List.not_mem_nil, or_false] at h
        rcases h with h | h
        · exact .inl h
        · exact .inr (.inl h)
    · rcases join_mem (y :: xs) b h with h | h | ⟨z, hz, h⟩
      · exact .inl h
      · exact .inr (.inl h)
      · exact .inr (.inr ⟨z, List.mem_cons_of_mem _ hz, h⟩)
theorem name_no10 (op : Int) (h : 1 ≤ op ∧ op ≤ 33) : (10 : UInt8) ∉ nameT op := by
  obtain ⟨n, rfl⟩ := Int.eq_ofNat_of_zero_le (by omega : 0 ≤ op)
  have key : ∀ n : Nat, n < 34 → (10 : UInt8) ∉ nameT (n : Int) := by decide +kernel
  exact key n (by omega)
theorem inst_no10 (i : Ins) (ho : i.ok) (hc : i.chk = true) : (10 : UInt8) ∉ instT i := by
  have hr := chk_range hc
  have hn := name_no10 i.op hr
  obtain ⟨hg, _⟩ := back_all i ho hc
  rcases instT_eq i ho hc with ⟨_, h2⟩ | ⟨_, h2⟩
  · rw [h2]; exact hn
  · rw [h2]
    intro h
    rcases List.mem_append.1 h with h | h
    · rcases List.mem_append.1 h with h | h
      · exact hn h
      · exact absurd h (by decide)
    · rcases join_mem _ _ h with h | h | ⟨x, hx, h⟩
      · exact absurd h (by decide)
      · exact absurd h (by decide)
      · exact ((good_read (hg x hx)).2.2 10 h).2.2 rfl
end Go.Proofs.YtokcamgipnaoeaaGreatDoor.Ls
