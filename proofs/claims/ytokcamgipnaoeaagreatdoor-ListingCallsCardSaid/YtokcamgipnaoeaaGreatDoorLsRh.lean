/- Listing, plain: candidate fills the instruction again; the document's Read reads what Read reads; ReadAll. Conditions of the walk: none. -/
import Derived.Test.YtokcamgipnaoeaaGreatDoorLsRg
set_option linter.unusedVariables false
set_option linter.unusedSimpArgs false
namespace Go.Proofs.YtokcamgipnaoeaaGreatDoor.Ls
open Go Go.RowKit SL Go.Shelf
attribute [local irreducible] SL.L SL.C SL.D SL.N SL.H SL.QL SL.QW SL.QP

theorem cand_1 (d s t mb mi ms md im : Int) (ho : Ins.ok ⟨1, d, s, t, mb, mi, ms, md, im⟩) (hc : chk 1 d s t mb mi ms md im = true) : candC 1 ((opds ⟨1, d, s, t, mb, mi, ms, md, im⟩).map Opd.txt) = ⟨1, d, s, t, mb, mi, ms, md, im⟩ := by
  rw [chk_1] at hc
  obtain ⟨rfl, hd, hs, rfl, ⟨rfl, rfl, rfl, rfl⟩⟩ := hc
  have e : (opds ⟨1, d, s, 0, 0, 0, 0, 0, 0⟩).map Opd.txt = [regT d, regT s] := rfl
  rw [e]
  have b0 : (flOf 1).b0 = false := by decide +kernel
  have bD : (flOf 1).bD = true := by decide +kernel
  have bS : (flOf 1).bS = true := by decide +kernel
  have bT : (flOf 1).bT = false := by decide +kernel
  have bM : (flOf 1).bM = false := by decide +kernel
  simp [candC, z4, z3, z2, z1, c0, cD, cS, cT, cM, cI, b0, bD, bS, bT, bM, regOf_reg (reg_R hd), regOf_reg (reg_R hs)]
theorem cand_2 (d s t mb mi ms md im : Int) (ho : Ins.ok ⟨2, d, s, t, mb, mi, ms, md, im⟩) (hc : chk 2 d s t mb mi ms md im = true) : candC 2 ((opds ⟨2, d, s, t, mb, mi, ms, md, im⟩).map Opd.txt) = ⟨2, d, s, t, mb, mi, ms, md, im⟩ := by
  rw [chk_2] at hc
  obtain ⟨hi, hd, rfl, rfl, ⟨rfl, rfl, rfl, rfl⟩⟩ := hc
  have e : (opds ⟨2, d, 0, 0, 0, 0, 0, 0, im⟩).map Opd.txt = [regT d, Lib.itoa im] := rfl
  rw [e]
  have b0 : (flOf 2).b0 = false := by decide +kernel
  have bD : (flOf 2).bD = true := by decide +kernel
  have bS : (flOf 2).bS = false := by decide +kernel
  have bT : (flOf 2).bT = false := by decide +kernel
  have bM : (flOf 2).bM = false := by decide +kernel
  simp [candC, z4, z3, z2, z1, c0, cD, cS, cT, cM, cI, b0, bD, bS, bT, bM, regOf_reg (reg_R hd), num_itoa im ho.2.2]
theorem cand_3 (d s t mb mi ms md im : Int) (ho : Ins.ok ⟨3, d, s, t, mb, mi, ms, md, im⟩) (hc : chk 3 d s t mb mi ms md im = true) : candC 3 ((opds ⟨3, d, s, t, mb, mi, ms, md, im⟩).map Opd.txt) = ⟨3, d, s, t, mb, mi, ms, md, im⟩ := by
  rw [chk_3] at hc
  obtain ⟨rfl, hd, rfl, rfl, hm⟩ := hc
  have e : (opds ⟨3, d, 0, 0, mb, mi, ms, md, 0⟩).map Opd.txt = [regT d, placeT mb mi ms md] := rfl
  rw [e]
  have b0 : (flOf 3).b0 = false := by decide +kernel
  have bD : (flOf 3).bD = true := by decide +kernel
  have bS : (flOf 3).bS = false := by decide +kernel
  have bT : (flOf 3).bT = false := by decide +kernel
  have bM : (flOf 3).bM = true := by decide +kernel
  have hM : ∀ i : Ins, setM i (placeT mb mi ms md) = { i with mb := mb, mi := mi, ms := ms, md := md } := fun i => setM_place i (plc_P hm) ho.2.1
  have hpl : 1 < (placeT mb mi ms md).length := place_len
  simp [candC, z4, z3, z2, z1, c0, cD, cS, cT, cM, cI, b0, bD, bS, bT, bM, hpl, regOf_reg (reg_R hd), hM]
theorem cand_4 (d s t mb mi ms md im : Int) (ho : Ins.ok ⟨4, d, s, t, mb, mi, ms, md, im⟩) (hc : chk 4 d s t mb mi ms md im = true) : candC 4 ((opds ⟨4, d, s, t, mb, mi, ms, md, im⟩).map Opd.txt) = ⟨4, d, s, t, mb, mi, ms, md, im⟩ := by
  rw [chk_4] at hc
  obtain ⟨rfl, rfl, hs, rfl, hm⟩ := hc
  have e : (opds ⟨4, 0, s, 0, mb, mi, ms, md, 0⟩).map Opd.txt = [placeT mb mi ms md, regT s] := rfl
  rw [e]
  have b0 : (flOf 4).b0 = true := by decide +kernel
  have bD : (flOf 4).bD = false := by decide +kernel
  have bS : (flOf 4).bS = true := by decide +kernel
  have bT : (flOf 4).bT = false := by decide +kernel
  have bM : (flOf 4).bM = false := by decide +kernel
  have hM : ∀ i : Ins, setM i (placeT mb mi ms md) = { i with mb := mb, mi := mi, ms := ms, md := md } := fun i => setM_place i (plc_P hm) ho.2.1
  have hpl : 1 < (placeT mb mi ms md).length := place_len
  simp [candC, z4, z3, z2, z1, c0, cD, cS, cT, cM, cI, b0, bD, bS, bT, bM, hpl, hM, regOf_reg (reg_R hs)]
theorem cand_5 (d s t mb mi ms md im : Int) (ho : Ins.ok ⟨5, d, s, t, mb, mi, ms, md, im⟩) (hc : chk 5 d s t mb mi ms md im = true) : candC 5 ((opds ⟨5, d, s, t, mb, mi, ms, md, im⟩).map Opd.txt) = ⟨5, d, s, t, mb, mi, ms, md, im⟩ := by
  rw [chk_5] at hc
  obtain ⟨rfl, hd, rfl, rfl, hm⟩ := hc
  have e : (opds ⟨5, d, 0, 0, mb, mi, ms, md, 0⟩).map Opd.txt = [regT d, placeT mb mi ms md] := rfl
  rw [e]
  have b0 : (flOf 5).b0 = false := by decide +kernel
  have bD : (flOf 5).bD = true := by decide +kernel
  have bS : (flOf 5).bS = false := by decide +kernel
  have bT : (flOf 5).bT = false := by decide +kernel
  have bM : (flOf 5).bM = true := by decide +kernel
  have hM : ∀ i : Ins, setM i (placeT mb mi ms md) = { i with mb := mb, mi := mi, ms := ms, md := md } := fun i => setM_place i (plc_P hm) ho.2.1
  have hpl : 1 < (placeT mb mi ms md).length := place_len
  simp [candC, z4, z3, z2, z1, c0, cD, cS, cT, cM, cI, b0, bD, bS, bT, bM, hpl, regOf_reg (reg_R hd), hM]
theorem cand_6 (d s t mb mi ms md im : Int) (ho : Ins.ok ⟨6, d, s, t, mb, mi, ms, md, im⟩) (hc : chk 6 d s t mb mi ms md im = true) : candC 6 ((opds ⟨6, d, s, t, mb, mi, ms, md, im⟩).map Opd.txt) = ⟨6, d, s, t, mb, mi, ms, md, im⟩ := by
  rw [chk_6] at hc
  obtain ⟨rfl, hd, hs, rfl, ⟨rfl, rfl, rfl, rfl⟩⟩ := hc
  have e : (opds ⟨6, d, s, 0, 0, 0, 0, 0, 0⟩).map Opd.txt = [regT d, regT s] := rfl
  rw [e]
  have b0 : (flOf 6).b0 = false := by decide +kernel
  have bD : (flOf 6).bD = true := by decide +kernel
  have bS : (flOf 6).bS = true := by decide +kernel
  have bT : (flOf 6).bT = false := by decide +kernel
  have bM : (flOf 6).bM = false := by decide +kernel
  simp [candC, z4, z3, z2, z1, c0, cD, cS, cT, cM, cI, b0, bD, bS, bT, bM, regOf_reg (reg_R hd), regOf_reg (reg_R hs)]
theorem cand_7 (d s t mb mi ms md im : Int) (ho : Ins.ok ⟨7, d, s, t, mb, mi, ms, md, im⟩) (hc : chk 7 d s t mb mi ms md im = true) : candC 7 ((opds ⟨7, d, s, t, mb, mi, ms, md, im⟩).map Opd.txt) = ⟨7, d, s, t, mb, mi, ms, md, im⟩ := by
  rw [chk_7] at hc
  obtain ⟨rfl, hd, hs, rfl, ⟨rfl, rfl, rfl, rfl⟩⟩ := hc
  have e : (opds ⟨7, d, s, 0, 0, 0, 0, 0, 0⟩).map Opd.txt = [regT d, regT s] := rfl
  rw [e]
  have b0 : (flOf 7).b0 = false := by decide +kernel
  have bD : (flOf 7).bD = true := by decide +kernel
  have bS : (flOf 7).bS = true := by decide +kernel
  have bT : (flOf 7).bT = false := by decide +kernel
  have bM : (flOf 7).bM = false := by decide +kernel
  simp [candC, z4, z3, z2, z1, c0, cD, cS, cT, cM, cI, b0, bD, bS, bT, bM, regOf_reg (reg_R hd), regOf_reg (reg_R hs)]
theorem cand_8 (d s t mb mi ms md im : Int) (ho : Ins.ok ⟨8, d, s, t, mb, mi, ms, md, im⟩) (hc : chk 8 d s t mb mi ms md im = true) : candC 8 ((opds ⟨8, d, s, t, mb, mi, ms, md, im⟩).map Opd.txt) = ⟨8, d, s, t, mb, mi, ms, md, im⟩ := by
  rw [chk_8] at hc
  obtain ⟨rfl, hd, hs, rfl, ⟨rfl, rfl, rfl, rfl⟩⟩ := hc
  have e : (opds ⟨8, d, s, 0, 0, 0, 0, 0, 0⟩).map Opd.txt = [regT d, regT s] := rfl
  rw [e]
  have b0 : (flOf 8).b0 = false := by decide +kernel
  have bD : (flOf 8).bD = true := by decide +kernel
  have bS : (flOf 8).bS = true := by decide +kernel
  have bT : (flOf 8).bT = false := by decide +kernel
  have bM : (flOf 8).bM = false := by decide +kernel
  simp [candC, z4, z3, z2, z1, c0, cD, cS, cT, cM, cI, b0, bD, bS, bT, bM, regOf_reg (reg_R hd), regOf_reg (reg_R hs)]
theorem cand_9 (d s t mb mi ms md im : Int) (ho : Ins.ok ⟨9, d, s, t, mb, mi, ms, md, im⟩) (hc : chk 9 d s t mb mi ms md im = true) : candC 9 ((opds ⟨9, d, s, t, mb, mi, ms, md, im⟩).map Opd.txt) = ⟨9, d, s, t, mb, mi, ms, md, im⟩ := by
  rw [chk_9] at hc
  obtain ⟨rfl, hd, hs, rfl, ⟨rfl, rfl, rfl, rfl⟩⟩ := hc
  have e : (opds ⟨9, d, s, 0, 0, 0, 0, 0, 0⟩).map Opd.txt = [regT d, regT s] := rfl
  rw [e]
  have b0 : (flOf 9).b0 = false := by decide +kernel
  have bD : (flOf 9).bD = true := by decide +kernel
  have bS : (flOf 9).bS = true := by decide +kernel
  have bT : (flOf 9).bT = false := by decide +kernel
  have bM : (flOf 9).bM = false := by decide +kernel
  simp [candC, z4, z3, z2, z1, c0, cD, cS, cT, cM, cI, b0, bD, bS, bT, bM, regOf_reg (reg_R hd), regOf_reg (reg_R hs)]
theorem cand_10 (d s t mb mi ms md im : Int) (ho : Ins.ok ⟨10, d, s, t, mb, mi, ms, md, im⟩) (hc : chk 10 d s t mb mi ms md im = true) : candC 10 ((opds ⟨10, d, s, t, mb, mi, ms, md, im⟩).map Opd.txt) = ⟨10, d, s, t, mb, mi, ms, md, im⟩ := by
  rw [chk_10] at hc
  obtain ⟨rfl, hd, hs, rfl, ⟨rfl, rfl, rfl, rfl⟩⟩ := hc
  have e : (opds ⟨10, d, s, 0, 0, 0, 0, 0, 0⟩).map Opd.txt = [regT d, regT s] := rfl
  rw [e]
  have b0 : (flOf 10).b0 = false := by decide +kernel
  have bD : (flOf 10).bD = true := by decide +kernel
  have bS : (flOf 10).bS = true := by decide +kernel
  have bT : (flOf 10).bT = false := by decide +kernel
  have bM : (flOf 10).bM = false := by decide +kernel
  simp [candC, z4, z3, z2, z1, c0, cD, cS, cT, cM, cI, b0, bD, bS, bT, bM, regOf_reg (reg_R hd), regOf_reg (reg_R hs)]
theorem cand_11 (d s t mb mi ms md im : Int) (ho : Ins.ok ⟨11, d, s, t, mb, mi, ms, md, im⟩) (hc : chk 11 d s t mb mi ms md im = true) : candC 11 ((opds ⟨11, d, s, t, mb, mi, ms, md, im⟩).map Opd.txt) = ⟨11, d, s, t, mb, mi, ms, md, im⟩ := by
  rw [chk_11] at hc
  obtain ⟨rfl, hd, hs, rfl, ⟨rfl, rfl, rfl, rfl⟩⟩ := hc
  have e : (opds ⟨11, d, s, 0, 0, 0, 0, 0, 0⟩).map Opd.txt = [regT d, regT s] := rfl
  rw [e]
  have b0 : (flOf 11).b0 = false := by decide +kernel
  have bD : (flOf 11).bD = true := by decide +kernel
  have bS : (flOf 11).bS = true := by decide +kernel
  have bT : (flOf 11).bT = false := by decide +kernel
  have bM : (flOf 11).bM = false := by decide +kernel
  simp [candC, z4, z3, z2, z1, c0, cD, cS, cT, cM, cI, b0, bD, bS, bT, bM, regOf_reg (reg_R hd), regOf_reg (reg_R hs)]
theorem cand_12 (d s t mb mi ms md im : Int) (ho : Ins.ok ⟨12, d, s, t, mb, mi, ms, md, im⟩) (hc : chk 12 d s t mb mi ms md im = true) : candC 12 ((opds ⟨12, d, s, t, mb, mi, ms, md, im⟩).map Opd.txt) = ⟨12, d, s, t, mb, mi, ms, md, im⟩ := by
  rw [chk_12] at hc
  obtain ⟨rfl, hd, hs, rfl, ⟨rfl, rfl, rfl, rfl⟩⟩ := hc
  have e : (opds ⟨12, d, s, 0, 0, 0, 0, 0, 0⟩).map Opd.txt = [regT d, regT s] := rfl
  rw [e]
  have b0 : (flOf 12).b0 = false := by decide +kernel
  have bD : (flOf 12).bD = true := by decide +kernel
  have bS : (flOf 12).bS = true := by decide +kernel
  have bT : (flOf 12).bT = false := by decide +kernel
  have bM : (flOf 12).bM = false := by decide +kernel
  simp [candC, z4, z3, z2, z1, c0, cD, cS, cT, cM, cI, b0, bD, bS, bT, bM, regOf_reg (reg_R hd), regOf_reg (reg_R hs)]
theorem cand_13 (d s t mb mi ms md im : Int) (ho : Ins.ok ⟨13, d, s, t, mb, mi, ms, md, im⟩) (hc : chk 13 d s t mb mi ms md im = true) : candC 13 ((opds ⟨13, d, s, t, mb, mi, ms, md, im⟩).map Opd.txt) = ⟨13, d, s, t, mb, mi, ms, md, im⟩ := by
  rw [chk_13] at hc
  obtain ⟨rfl, hd, hs, rfl, ⟨rfl, rfl, rfl, rfl⟩⟩ := hc
  have e : (opds ⟨13, d, s, 0, 0, 0, 0, 0, 0⟩).map Opd.txt = [regT d, regT s] := rfl
  rw [e]
  have b0 : (flOf 13).b0 = false := by decide +kernel
  have bD : (flOf 13).bD = true := by decide +kernel
  have bS : (flOf 13).bS = true := by decide +kernel
  have bT : (flOf 13).bT = false := by decide +kernel
  have bM : (flOf 13).bM = false := by decide +kernel
  simp [candC, z4, z3, z2, z1, c0, cD, cS, cT, cM, cI, b0, bD, bS, bT, bM, regOf_reg (reg_R hd), regOf_reg (reg_R hs)]
theorem cand_14 (d s t mb mi ms md im : Int) (ho : Ins.ok ⟨14, d, s, t, mb, mi, ms, md, im⟩) (hc : chk 14 d s t mb mi ms md im = true) : candC 14 ((opds ⟨14, d, s, t, mb, mi, ms, md, im⟩).map Opd.txt) = ⟨14, d, s, t, mb, mi, ms, md, im⟩ := by
  rw [chk_14] at hc
  obtain ⟨rfl, hd, hs, rfl, ⟨rfl, rfl, rfl, rfl⟩⟩ := hc
  have e : (opds ⟨14, d, s, 0, 0, 0, 0, 0, 0⟩).map Opd.txt = [regT d, regT s] := rfl
  rw [e]
  have b0 : (flOf 14).b0 = false := by decide +kernel
  have bD : (flOf 14).bD = true := by decide +kernel
  have bS : (flOf 14).bS = true := by decide +kernel
  have bT : (flOf 14).bT = false := by decide +kernel
  have bM : (flOf 14).bM = false := by decide +kernel
  simp [candC, z4, z3, z2, z1, c0, cD, cS, cT, cM, cI, b0, bD, bS, bT, bM, regOf_reg (reg_R hd), regOf_reg (reg_R hs)]
theorem cand_15 (d s t mb mi ms md im : Int) (ho : Ins.ok ⟨15, d, s, t, mb, mi, ms, md, im⟩) (hc : chk 15 d s t mb mi ms md im = true) : candC 15 ((opds ⟨15, d, s, t, mb, mi, ms, md, im⟩).map Opd.txt) = ⟨15, d, s, t, mb, mi, ms, md, im⟩ := by
  rw [chk_15] at hc
  obtain ⟨hi, hd, rfl, rfl, ⟨rfl, rfl, rfl, rfl⟩⟩ := hc
  have e : (opds ⟨15, d, 0, 0, 0, 0, 0, 0, im⟩).map Opd.txt = [regT d, Lib.itoa im] := rfl
  rw [e]
  have b0 : (flOf 15).b0 = false := by decide +kernel
  have bD : (flOf 15).bD = true := by decide +kernel
  have bS : (flOf 15).bS = false := by decide +kernel
  have bT : (flOf 15).bT = false := by decide +kernel
  have bM : (flOf 15).bM = false := by decide +kernel
  simp [candC, z4, z3, z2, z1, c0, cD, cS, cT, cM, cI, b0, bD, bS, bT, bM, regOf_reg (reg_R hd), num_itoa im ho.2.2]
theorem cand_16 (d s t mb mi ms md im : Int) (ho : Ins.ok ⟨16, d, s, t, mb, mi, ms, md, im⟩) (hc : chk 16 d s t mb mi ms md im = true) : candC 16 ((opds ⟨16, d, s, t, mb, mi, ms, md, im⟩).map Opd.txt) = ⟨16, d, s, t, mb, mi, ms, md, im⟩ := by
  rw [chk_16] at hc
  obtain ⟨hi, hd, rfl, rfl, ⟨rfl, rfl, rfl, rfl⟩⟩ := hc
  have e : (opds ⟨16, d, 0, 0, 0, 0, 0, 0, im⟩).map Opd.txt = [regT d, Lib.itoa im] := rfl
  rw [e]
  have b0 : (flOf 16).b0 = false := by decide +kernel
  have bD : (flOf 16).bD = true := by decide +kernel
  have bS : (flOf 16).bS = false := by decide +kernel
  have bT : (flOf 16).bT = false := by decide +kernel
  have bM : (flOf 16).bM = false := by decide +kernel
  simp [candC, z4, z3, z2, z1, c0, cD, cS, cT, cM, cI, b0, bD, bS, bT, bM, regOf_reg (reg_R hd), num_itoa im ho.2.2]
theorem cand_17 (d s t mb mi ms md im : Int) (ho : Ins.ok ⟨17, d, s, t, mb, mi, ms, md, im⟩) (hc : chk 17 d s t mb mi ms md im = true) : candC 17 ((opds ⟨17, d, s, t, mb, mi, ms, md, im⟩).map Opd.txt) = ⟨17, d, s, t, mb, mi, ms, md, im⟩ := by
  rw [chk_17] at hc
  obtain ⟨hi, hd, rfl, rfl, ⟨rfl, rfl, rfl, rfl⟩⟩ := hc
  have e : (opds ⟨17, d, 0, 0, 0, 0, 0, 0, im⟩).map Opd.txt = [regT d, Lib.itoa im] := rfl
  rw [e]
  have b0 : (flOf 17).b0 = false := by decide +kernel
  have bD : (flOf 17).bD = true := by decide +kernel
  have bS : (flOf 17).bS = false := by decide +kernel
  have bT : (flOf 17).bT = false := by decide +kernel
  have bM : (flOf 17).bM = false := by decide +kernel
  simp [candC, z4, z3, z2, z1, c0, cD, cS, cT, cM, cI, b0, bD, bS, bT, bM, regOf_reg (reg_R hd), num_itoa im ho.2.2]
theorem cand_18 (d s t mb mi ms md im : Int) (ho : Ins.ok ⟨18, d, s, t, mb, mi, ms, md, im⟩) (hc : chk 18 d s t mb mi ms md im = true) : candC 18 ((opds ⟨18, d, s, t, mb, mi, ms, md, im⟩).map Opd.txt) = ⟨18, d, s, t, mb, mi, ms, md, im⟩ := by
  rw [chk_18] at hc
  obtain ⟨hi, hd, rfl, rfl, ⟨rfl, rfl, rfl, rfl⟩⟩ := hc
  have e : (opds ⟨18, d, 0, 0, 0, 0, 0, 0, im⟩).map Opd.txt = [regT d, Lib.itoa im] := rfl
  rw [e]
  have b0 : (flOf 18).b0 = false := by decide +kernel
  have bD : (flOf 18).bD = true := by decide +kernel
  have bS : (flOf 18).bS = false := by decide +kernel
  have bT : (flOf 18).bT = false := by decide +kernel
  have bM : (flOf 18).bM = false := by decide +kernel
  simp [candC, z4, z3, z2, z1, c0, cD, cS, cT, cM, cI, b0, bD, bS, bT, bM, regOf_reg (reg_R hd), num_itoa im ho.2.2]
theorem cand_19 (d s t mb mi ms md im : Int) (ho : Ins.ok ⟨19, d, s, t, mb, mi, ms, md, im⟩) (hc : chk 19 d s t mb mi ms md im = true) : candC 19 ((opds ⟨19, d, s, t, mb, mi, ms, md, im⟩).map Opd.txt) = ⟨19, d, s, t, mb, mi, ms, md, im⟩ := by
  rw [chk_19] at hc
  obtain ⟨rfl, hd, hs, ht, ⟨rfl, rfl, rfl, rfl⟩, _⟩ := hc
  have e : (opds ⟨19, d, s, t, 0, 0, 0, 0, 0⟩).map Opd.txt = [regT d, regT s, regT t] := rfl
  rw [e]
  have b0 : (flOf 19).b0 = false := by decide +kernel
  have bD : (flOf 19).bD = true := by decide +kernel
  have bS : (flOf 19).bS = true := by decide +kernel
  have bT : (flOf 19).bT = true := by decide +kernel
  have bM : (flOf 19).bM = false := by decide +kernel
  simp [candC, z4, z3, z2, z1, c0, cD, cS, cT, cM, cI, b0, bD, bS, bT, bM, regOf_reg (reg_R hd), regOf_reg (reg_R hs), regOf_reg (reg_R ht)]
theorem cand_20 (d s t mb mi ms md im : Int) (ho : Ins.ok ⟨20, d, s, t, mb, mi, ms, md, im⟩) (hc : chk 20 d s t mb mi ms md im = true) : candC 20 ((opds ⟨20, d, s, t, mb, mi, ms, md, im⟩).map Opd.txt) = ⟨20, d, s, t, mb, mi, ms, md, im⟩ := by
  rw [chk_20] at hc
  obtain ⟨rfl, hd, hs, rfl, ⟨rfl, rfl, rfl, rfl⟩⟩ := hc
  have e : (opds ⟨20, d, s, 0, 0, 0, 0, 0, 0⟩).map Opd.txt = [regT d, regT s] := rfl
  rw [e]
  have b0 : (flOf 20).b0 = false := by decide +kernel
  have bD : (flOf 20).bD = true := by decide +kernel
  have bS : (flOf 20).bS = true := by decide +kernel
  have bT : (flOf 20).bT = false := by decide +kernel
  have bM : (flOf 20).bM = false := by decide +kernel
  simp [candC, z4, z3, z2, z1, c0, cD, cS, cT, cM, cI, b0, bD, bS, bT, bM, regOf_reg (reg_R hd), regOf_reg (reg_R hs)]
theorem cand_21 (d s t mb mi ms md im : Int) (ho : Ins.ok ⟨21, d, s, t, mb, mi, ms, md, im⟩) (hc : chk 21 d s t mb mi ms md im = true) : candC 21 ((opds ⟨21, d, s, t, mb, mi, ms, md, im⟩).map Opd.txt) = ⟨21, d, s, t, mb, mi, ms, md, im⟩ := by
  rw [chk_21] at hc
  obtain ⟨rfl, hd, hs, rfl, ⟨rfl, rfl, rfl, rfl⟩⟩ := hc
  have e : (opds ⟨21, d, s, 0, 0, 0, 0, 0, 0⟩).map Opd.txt = [regT d, regT s] := rfl
  rw [e]
  have b0 : (flOf 21).b0 = false := by decide +kernel
  have bD : (flOf 21).bD = true := by decide +kernel
  have bS : (flOf 21).bS = true := by decide +kernel
  have bT : (flOf 21).bT = false := by decide +kernel
  have bM : (flOf 21).bM = false := by decide +kernel
  simp [candC, z4, z3, z2, z1, c0, cD, cS, cT, cM, cI, b0, bD, bS, bT, bM, regOf_reg (reg_R hd), regOf_reg (reg_R hs)]
theorem cand_22 (d s t mb mi ms md im : Int) (ho : Ins.ok ⟨22, d, s, t, mb, mi, ms, md, im⟩) (hc : chk 22 d s t mb mi ms md im = true) : candC 22 ((opds ⟨22, d, s, t, mb, mi, ms, md, im⟩).map Opd.txt) = ⟨22, d, s, t, mb, mi, ms, md, im⟩ := by
  rw [chk_22] at hc
  obtain ⟨rfl, hd, rfl, rfl, ⟨rfl, rfl, rfl, rfl⟩⟩ := hc
  have e : (opds ⟨22, d, 0, 0, 0, 0, 0, 0, 0⟩).map Opd.txt = [regT d] := rfl
  rw [e]
  have b0 : (flOf 22).b0 = false := by decide +kernel
  have bD : (flOf 22).bD = true := by decide +kernel
  have bS : (flOf 22).bS = false := by decide +kernel
  have bT : (flOf 22).bT = false := by decide +kernel
  have bM : (flOf 22).bM = false := by decide +kernel
  simp [candC, z4, z3, z2, z1, c0, cD, cS, cT, cM, cI, b0, bD, bS, bT, bM, regOf_reg (reg_R hd)]
theorem cand_23 (d s t mb mi ms md im : Int) (ho : Ins.ok ⟨23, d, s, t, mb, mi, ms, md, im⟩) (hc : chk 23 d s t mb mi ms md im = true) : candC 23 ((opds ⟨23, d, s, t, mb, mi, ms, md, im⟩).map Opd.txt) = ⟨23, d, s, t, mb, mi, ms, md, im⟩ := by
  rw [chk_23] at hc
  obtain ⟨rfl, hd, rfl, rfl, ⟨rfl, rfl, rfl, rfl⟩⟩ := hc
  have e : (opds ⟨23, d, 0, 0, 0, 0, 0, 0, 0⟩).map Opd.txt = [regT d] := rfl
  rw [e]
  have b0 : (flOf 23).b0 = false := by decide +kernel
  have bD : (flOf 23).bD = true := by decide +kernel
  have bS : (flOf 23).bS = false := by decide +kernel
  have bT : (flOf 23).bT = false := by decide +kernel
  have bM : (flOf 23).bM = false := by decide +kernel
  simp [candC, z4, z3, z2, z1, c0, cD, cS, cT, cM, cI, b0, bD, bS, bT, bM, regOf_reg (reg_R hd)]
theorem cand_24 (d s t mb mi ms md im : Int) (ho : Ins.ok ⟨24, d, s, t, mb, mi, ms, md, im⟩) (hc : chk 24 d s t mb mi ms md im = true) : candC 24 ((opds ⟨24, d, s, t, mb, mi, ms, md, im⟩).map Opd.txt) = ⟨24, d, s, t, mb, mi, ms, md, im⟩ := by
  rw [chk_24] at hc
  obtain ⟨hi, hd, rfl, rfl, ⟨rfl, rfl, rfl, rfl⟩⟩ := hc
  have e : (opds ⟨24, d, 0, 0, 0, 0, 0, 0, im⟩).map Opd.txt = [regT d, Lib.itoa im] := rfl
  rw [e]
  have b0 : (flOf 24).b0 = false := by decide +kernel
  have bD : (flOf 24).bD = true := by decide +kernel
  have bS : (flOf 24).bS = false := by decide +kernel
  have bT : (flOf 24).bT = false := by decide +kernel
  have bM : (flOf 24).bM = false := by decide +kernel
  simp [candC, z4, z3, z2, z1, c0, cD, cS, cT, cM, cI, b0, bD, bS, bT, bM, regOf_reg (reg_R hd), num_itoa im ho.2.2]
theorem cand_25 (d s t mb mi ms md im : Int) (ho : Ins.ok ⟨25, d, s, t, mb, mi, ms, md, im⟩) (hc : chk 25 d s t mb mi ms md im = true) : candC 25 ((opds ⟨25, d, s, t, mb, mi, ms, md, im⟩).map Opd.txt) = ⟨25, d, s, t, mb, mi, ms, md, im⟩ := by
  rw [chk_25] at hc
  obtain ⟨hi, hd, rfl, rfl, ⟨rfl, rfl, rfl, rfl⟩⟩ := hc
  have e : (opds ⟨25, d, 0, 0, 0, 0, 0, 0, im⟩).map Opd.txt = [regT d, Lib.itoa im] := rfl
  rw [e]
  have b0 : (flOf 25).b0 = false := by decide +kernel
  have bD : (flOf 25).bD = true := by decide +kernel
  have bS : (flOf 25).bS = false := by decide +kernel
  have bT : (flOf 25).bT = false := by decide +kernel
  have bM : (flOf 25).bM = false := by decide +kernel
  simp [candC, z4, z3, z2, z1, c0, cD, cS, cT, cM, cI, b0, bD, bS, bT, bM, regOf_reg (reg_R hd), num_itoa im ho.2.2]
theorem cand_26 (d s t mb mi ms md im : Int) (ho : Ins.ok ⟨26, d, s, t, mb, mi, ms, md, im⟩) (hc : chk 26 d s t mb mi ms md im = true) : candC 26 ((opds ⟨26, d, s, t, mb, mi, ms, md, im⟩).map Opd.txt) = ⟨26, d, s, t, mb, mi, ms, md, im⟩ := by
  rw [chk_26] at hc
  obtain ⟨rfl, hd, hs, rfl, ⟨rfl, rfl, rfl, rfl⟩⟩ := hc
  have e : (opds ⟨26, d, s, 0, 0, 0, 0, 0, 0⟩).map Opd.txt = [regT d, regT s] := rfl
  rw [e]
  have b0 : (flOf 26).b0 = false := by decide +kernel
  have bD : (flOf 26).bD = true := by decide +kernel
  have bS : (flOf 26).bS = true := by decide +kernel
  have bT : (flOf 26).bT = false := by decide +kernel
  have bM : (flOf 26).bM = false := by decide +kernel
  simp [candC, z4, z3, z2, z1, c0, cD, cS, cT, cM, cI, b0, bD, bS, bT, bM, regOf_reg (reg_R hd), regOf_reg (reg_R hs)]
theorem cand_27 (d s t mb mi ms md im : Int) (ho : Ins.ok ⟨27, d, s, t, mb, mi, ms, md, im⟩) (hc : chk 27 d s t mb mi ms md im = true) : candC 27 ((opds ⟨27, d, s, t, mb, mi, ms, md, im⟩).map Opd.txt) = ⟨27, d, s, t, mb, mi, ms, md, im⟩ := by
  rw [chk_27] at hc
  obtain ⟨rfl, hd, hs, rfl, ⟨rfl, rfl, rfl, rfl⟩⟩ := hc
  have e : (opds ⟨27, d, s, 0, 0, 0, 0, 0, 0⟩).map Opd.txt = [regT d, regT s] := rfl
  rw [e]
  have b0 : (flOf 27).b0 = false := by decide +kernel
  have bD : (flOf 27).bD = true := by decide +kernel
  have bS : (flOf 27).bS = true := by decide +kernel
  have bT : (flOf 27).bT = false := by decide +kernel
  have bM : (flOf 27).bM = false := by decide +kernel
  simp [candC, z4, z3, z2, z1, c0, cD, cS, cT, cM, cI, b0, bD, bS, bT, bM, regOf_reg (reg_R hd), regOf_reg (reg_R hs)]
theorem cand_28 (d s t mb mi ms md im : Int) (ho : Ins.ok ⟨28, d, s, t, mb, mi, ms, md, im⟩) (hc : chk 28 d s t mb mi ms md im = true) : candC 28 ((opds ⟨28, d, s, t, mb, mi, ms, md, im⟩).map Opd.txt) = ⟨28, d, s, t, mb, mi, ms, md, im⟩ := by
  rw [chk_28] at hc
  obtain ⟨rfl, rfl, hs, rfl, ⟨rfl, rfl, rfl, rfl⟩⟩ := hc
  have e : (opds ⟨28, 0, s, 0, 0, 0, 0, 0, 0⟩).map Opd.txt = [regT s] := rfl
  rw [e]
  have b0 : (flOf 28).b0 = false := by decide +kernel
  have bD : (flOf 28).bD = false := by decide +kernel
  have bS : (flOf 28).bS = true := by decide +kernel
  have bT : (flOf 28).bT = false := by decide +kernel
  have bM : (flOf 28).bM = false := by decide +kernel
  simp [candC, z4, z3, z2, z1, c0, cD, cS, cT, cM, cI, b0, bD, bS, bT, bM, regOf_reg (reg_R hs)]
theorem cand_29 (d s t mb mi ms md im : Int) (ho : Ins.ok ⟨29, d, s, t, mb, mi, ms, md, im⟩) (hc : chk 29 d s t mb mi ms md im = true) : candC 29 ((opds ⟨29, d, s, t, mb, mi, ms, md, im⟩).map Opd.txt) = ⟨29, d, s, t, mb, mi, ms, md, im⟩ := by
  rw [chk_29] at hc
  obtain ⟨rfl, hd, rfl, rfl, ⟨rfl, rfl, rfl, rfl⟩⟩ := hc
  have e : (opds ⟨29, d, 0, 0, 0, 0, 0, 0, 0⟩).map Opd.txt = [regT d] := rfl
  rw [e]
  have b0 : (flOf 29).b0 = false := by decide +kernel
  have bD : (flOf 29).bD = true := by decide +kernel
  have bS : (flOf 29).bS = false := by decide +kernel
  have bT : (flOf 29).bT = false := by decide +kernel
  have bM : (flOf 29).bM = false := by decide +kernel
  simp [candC, z4, z3, z2, z1, c0, cD, cS, cT, cM, cI, b0, bD, bS, bT, bM, regOf_reg (reg_R hd)]
theorem cand_30 (d s t mb mi ms md im : Int) (ho : Ins.ok ⟨30, d, s, t, mb, mi, ms, md, im⟩) (hc : chk 30 d s t mb mi ms md im = true) : candC 30 ((opds ⟨30, d, s, t, mb, mi, ms, md, im⟩).map Opd.txt) = ⟨30, d, s, t, mb, mi, ms, md, im⟩ := by
  rw [chk_30] at hc
  obtain ⟨hi, rfl, rfl, rfl, ⟨rfl, rfl, rfl, rfl⟩⟩ := hc
  have e : (opds ⟨30, 0, 0, 0, 0, 0, 0, 0, im⟩).map Opd.txt = [distT im] := rfl
  rw [e]
  have b0 : (flOf 30).b0 = false := by decide +kernel
  have bD : (flOf 30).bD = false := by decide +kernel
  have bS : (flOf 30).bS = false := by decide +kernel
  have bT : (flOf 30).bT = false := by decide +kernel
  have bM : (flOf 30).bM = false := by decide +kernel
  simp [candC, z4, z3, z2, z1, c0, cD, cS, cT, cM, cI, b0, bD, bS, bT, bM, num_dist im ho.2.2]
theorem cand_31 (d s t mb mi ms md im : Int) (ho : Ins.ok ⟨31, d, s, t, mb, mi, ms, md, im⟩) (hc : chk 31 d s t mb mi ms md im = true) : candC 31 ((opds ⟨31, d, s, t, mb, mi, ms, md, im⟩).map Opd.txt) = ⟨31, d, s, t, mb, mi, ms, md, im⟩ := by
  rw [chk_31] at hc
  obtain ⟨hi, rfl, rfl, rfl, ⟨rfl, rfl, rfl, rfl⟩⟩ := hc
  have e : (opds ⟨31, 0, 0, 0, 0, 0, 0, 0, im⟩).map Opd.txt = [distT im] := rfl
  rw [e]
  have b0 : (flOf 31).b0 = false := by decide +kernel
  have bD : (flOf 31).bD = false := by decide +kernel
  have bS : (flOf 31).bS = false := by decide +kernel
  have bT : (flOf 31).bT = false := by decide +kernel
  have bM : (flOf 31).bM = false := by decide +kernel
  simp [candC, z4, z3, z2, z1, c0, cD, cS, cT, cM, cI, b0, bD, bS, bT, bM, num_dist im ho.2.2]
theorem cand_32 (d s t mb mi ms md im : Int) (ho : Ins.ok ⟨32, d, s, t, mb, mi, ms, md, im⟩) (hc : chk 32 d s t mb mi ms md im = true) : candC 32 ((opds ⟨32, d, s, t, mb, mi, ms, md, im⟩).map Opd.txt) = ⟨32, d, s, t, mb, mi, ms, md, im⟩ := by
  rw [chk_32] at hc
  obtain ⟨hi, rfl, rfl, rfl, ⟨rfl, rfl, rfl, rfl⟩⟩ := hc
  have e : (opds ⟨32, 0, 0, 0, 0, 0, 0, 0, im⟩).map Opd.txt = [distT im] := rfl
  rw [e]
  have b0 : (flOf 32).b0 = false := by decide +kernel
  have bD : (flOf 32).bD = false := by decide +kernel
  have bS : (flOf 32).bS = false := by decide +kernel
  have bT : (flOf 32).bT = false := by decide +kernel
  have bM : (flOf 32).bM = false := by decide +kernel
  simp [candC, z4, z3, z2, z1, c0, cD, cS, cT, cM, cI, b0, bD, bS, bT, bM, num_dist im ho.2.2]
theorem cand_33 (d s t mb mi ms md im : Int) (ho : Ins.ok ⟨33, d, s, t, mb, mi, ms, md, im⟩) (hc : chk 33 d s t mb mi ms md im = true) : candC 33 ((opds ⟨33, d, s, t, mb, mi, ms, md, im⟩).map Opd.txt) = ⟨33, d, s, t, mb, mi, ms, md, im⟩ := by
  rw [chk_33] at hc
  obtain ⟨rfl, rfl, rfl, rfl, ⟨rfl, rfl, rfl, rfl⟩⟩ := hc
  have e : (opds ⟨33, 0, 0, 0, 0, 0, 0, 0, 0⟩).map Opd.txt = [] := rfl
  rw [e]
  have b0 : (flOf 33).b0 = false := by decide +kernel
  have bD : (flOf 33).bD = false := by decide +kernel
  have bS : (flOf 33).bS = false := by decide +kernel
  have bT : (flOf 33).bT = false := by decide +kernel
  have bM : (flOf 33).bM = false := by decide +kernel
  simp [candC, z4, z3, z2, z1, c0, cD, cS, cT, cM, cI, b0, bD, bS, bT, bM]
theorem cand_back (i : Ins) (ho : i.ok) (hc : i.chk = true) : candC i.op ((opds i).map Opd.txt) = i := by
  obtain ⟨op, d, s, t, mb, mi, ms, md, im⟩ := i
  have hr := chk_range hc
  unfold Ins.chk at hc
  simp only at hc hr
  rcases (by omega : op = 1 ∨ op = 2 ∨ op = 3 ∨ op = 4 ∨ op = 5 ∨ op = 6 ∨ op = 7 ∨ op = 8 ∨ op = 9 ∨ op = 10 ∨ op = 11 ∨ op = 12 ∨ op = 13 ∨ op = 14 ∨ op = 15 ∨ op = 16 ∨ op = 17 ∨ op = 18 ∨ op = 19 ∨ op = 20 ∨ op = 21 ∨ op = 22 ∨ op = 23 ∨ op = 24 ∨ op = 25 ∨ op = 26 ∨ op = 27 ∨ op = 28 ∨ op = 29 ∨ op = 30 ∨ op = 31 ∨ op = 32 ∨ op = 33) with rfl | rfl | rfl | rfl | rfl | rfl | rfl | rfl | rfl | rfl | rfl | rfl | rfl | rfl | rfl | rfl | rfl | rfl | rfl | rfl | rfl | rfl | rfl | rfl | rfl | rfl | rfl | rfl | rfl | rfl | rfl | rfl | rfl
  · exact cand_1 d s t mb mi ms md im ho hc
  · exact cand_2 d s t mb mi ms md im ho hc
  · exact cand_3 d s t mb mi ms md im ho hc
  · exact cand_4 d s t mb mi ms md im ho hc
  · exact cand_5 d s t mb mi ms md im ho hc
  · exact cand_6 d s t mb mi ms md im ho hc
  · exact cand_7 d s t mb mi ms md im ho hc
  · exact cand_8 d s t mb mi ms md im ho hc
  · exact cand_9 d s t mb mi ms md im ho hc
  · exact cand_10 d s t mb mi ms md im ho hc
  · exact cand_11 d s t mb mi ms md im ho hc
  · exact cand_12 d s t mb mi ms md im ho hc
  · exact cand_13 d s t mb mi ms md im ho hc
  · exact cand_14 d s t mb mi ms md im ho hc
  · exact cand_15 d s t mb mi ms md im ho hc
  · exact cand_16 d s t mb mi ms md im ho hc
  · exact cand_17 d s t mb mi ms md im ho hc
  · exact cand_18 d s t mb mi ms md im ho hc
  · exact cand_19 d s t mb mi ms md im ho hc
  · exact cand_20 d s t mb mi ms md im ho hc
  · exact cand_21 d s t mb mi ms md im ho hc
  · exact cand_22 d s t mb mi ms md im ho hc
  · exact cand_23 d s t mb mi ms md im ho hc
  · exact cand_24 d s t mb mi ms md im ho hc
  · exact cand_25 d s t mb mi ms md im ho hc
  · exact cand_26 d s t mb mi ms md im ho hc
  · exact cand_27 d s t mb mi ms md im ho hc
  · exact cand_28 d s t mb mi ms md im ho hc
  · exact cand_29 d s t mb mi ms md im ho hc
  · exact cand_30 d s t mb mi ms md im ho hc
  · exact cand_31 d s t mb mi ms md im ho hc
  · exact cand_32 d s t mb mi ms md im ho hc
  · exact cand_33 d s t mb mi ms md im ho hc
theorem refL_inst (i : Ins) (ho : i.ok) (hc : i.chk = true) : refL (instT i) = (opds i).map Opd.txt := by
  have hr := chk_range hc
  have hn : (32 : UInt8) ∉ nameT i.op := fun h => name_cl i.op hr 32 h rfl
  obtain ⟨hg, _⟩ := back_all i ho hc
  unfold refL
  rcases instT_eq i ho hc with ⟨h1, h2⟩ | ⟨h1, h2⟩
  · rw [h2, h1, find_none hn, if_neg (by decide)]; rfl
  · obtain ⟨x, xs, hx⟩ := List.exists_cons_of_ne_nil h1
    have e : nameT i.op ++ [32] ++ Lib.join ((opds i).map Opd.txt) [44, 32] = nameT i.op ++ 32 :: Lib.join ((opds i).map Opd.txt) [44, 32] := by simp
    rw [h2, e, find_app _ _ _ hn, if_pos (by omega), Int.toNat_natCast]
    have hd : (nameT i.op ++ 32 :: Lib.join ((opds i).map Opd.txt) [44, 32]).drop ((nameT i.op).length + 1) = Lib.join ((opds i).map Opd.txt) [44, 32] := by
      rw [← List.drop_drop, List.drop_left]; rfl
    rw [hd, hx, List.map_cons]
    refine splR_join _ _ (fun z hz b hb => ?_)
    rw [← List.map_cons, ← hx] at hz
    obtain ⟨q, hq, rfl⟩ := List.mem_map.1 hz
    exact ((good_read (hg q hq)).2.2 b hb).1
theorem refI_eq (s : List UInt8) : refI s = readI s := by
  cases h : refI s with
  | some i => exact ((readI_iff s i).2 (refF_is 33 1 h)).symm
  | none =>
    cases h2 : readI s with
    | none => rfl
    | some i =>
      exfalso
      obtain ⟨ho, hc, hT⟩ := readI_is h2
      have hr := chk_range hc
      obtain ⟨k, hk⟩ := Int.eq_ofNat_of_zero_le (by omega : 0 ≤ i.op)
      have hcb := cand_back i ho hc
      rw [← refL_inst i ho hc, hT, hk] at hcb
      obtain ⟨j, hj⟩ := refF_hit (refL s) s k ⟨by rw [hcb]; exact hc, by rw [hcb]; exact hT⟩ 33 1 (by omega) (by omega)
      unfold refI at h
      rw [hj] at h; cases h
theorem first_of (s : List UInt8) (c : UInt8) : ∀ j : Nat, s[j]? = some c → ∃ m : Nat, s[m]? = some c ∧ ∀ q : Nat, q < m → s[q]? ≠ some c := by
  intro j
  induction j using Nat.strongRecOn with
  | _ j ih =>
    intro hj
    by_cases h : ∃ q : Nat, q < j ∧ s[q]? = some c
    · obtain ⟨q, hq, hs⟩ := h; exact ih q hq hs
    · exact ⟨j, hj, fun q hq e => h ⟨q, hq, e⟩⟩
theorem cut_find (s : List UInt8) : (find s 10 = -1 ∧ Lib.cut s [10] = (s, [], false)) ∨ ∃ k : Nat, find s 10 = (k : Int) ∧ k < s.length ∧ Lib.cut s [10] = (s.take k, s.drop (k + 1), true) := by
  have hfr := findF_range s 10 s.length 0
  have hfd : findF s 10 s.length 0 = find s 10 := rfl
  rw [hfd] at hfr
  rcases hfr with h | ⟨k, h1, _, h2, h3, h4⟩
  · refine .inl ⟨h, cut_miss s 10 [] (fun hm => ?_)⟩
    obtain ⟨j, hj⟩ := List.getElem?_of_mem hm
    have hjl := (List.getElem?_eq_some_iff.1 hj).1
    have hex := first_of s 10 j hj
    obtain ⟨m, hm1, hm2⟩ := hex
    have hml := (List.getElem?_eq_some_iff.1 hm1).1
    have := findF_hit s 10 m hm1 hm2 s.length 0 (Nat.zero_le _) (by omega)
    rw [hfd, h] at this; omega
  · refine .inr ⟨k, h1, by omega, ?_⟩
    have hk : k < s.length := by omega
    obtain ⟨_, he⟩ := List.getElem?_eq_some_iff.1 h3
    have hs : s = s.take k ++ [10] ++ s.drop (k + 1) := by
      conv => lhs; rw [← List.take_append_drop k s, List.drop_eq_getElem_cons hk, he]
      simp
    have hn : (10 : UInt8) ∉ s.take k := by
      intro hm
      obtain ⟨j, hj⟩ := List.getElem?_of_mem hm
      have hjl := (List.getElem?_eq_some_iff.1 hj).1
      rw [List.length_take] at hjl
      rw [List.getElem?_take_of_lt (by omega)] at hj
      exact h4 j (Nat.zero_le _) (by omega) hj
    have := cut_hit (s.take k) (s.drop (k + 1)) 10 [] hn
    rw [← hs] at this
    exact this
set_option maxRecDepth 100000 in
set_option maxHeartbeats 16000000 in
theorem rreadAll_S (s : List UInt8) (hs : s.length ≤ 1000) : Ctr Tryz.prog 13 [tx s] [] tt (linesV (linesF (s.length + 1) s)) := by
  obtain ⟨S, hS⟩ : ∃ S, S = s.length := ⟨_, rfl⟩
  obtain ⟨R, hR⟩ : ∃ R, R = linesF (S + 1) s := ⟨_, rfl⟩
  rw [← hS, ← hR]
  have hbig : ∀ x : Nat, x ≤ 200000 → x ≤ maxLen := fun x h => by unfold maxLen; omega
  refine Ctr.enter Tryz.func13 Tryz.ntmps13 rfl rfl (fun w _ => ?_)
  repeat (first | refine C.seq ?_ | refine C.region ?_ | refine L.nil ?_ | refine D.seq ?_ | refine L.move (k := ?_) | refine L.assign (k := ?_) | refine L.cm (c := ?_) | refine L.ar (c := ?_) | refine L.fieldAddr (c := ?_) | refine L.load1 0 (c := ?_) | refine L.load1 1 (c := ?_) | refine L.load1 2 (c := ?_) | refine L.load1 3 (c := ?_) | refine L.load1 4 (c := ?_) | refine L.loadA 0 (c := ?_) | refine L.loadA 1 (c := ?_) | refine L.loadA 2 (c := ?_) | refine L.loadA 3 (c := ?_) | refine L.loadA 4 (c := ?_) | refine L.storeV 0 (c := ?_) | refine L.storeV 1 (c := ?_) | refine L.storeV 2 (c := ?_) | refine L.storeV 3 (c := ?_) | refine L.storeV 4 (c := ?_) | refine L.extract (c := ?_) | refine L.build (c := ?_) | refine L.alloc (c := fun _ => ?_) | refine L.box (c := fun _ => ?_) | refine L.nilCheck (k := ?_) | refine C.yes (h1 := ?_) | refine C.no (h1 := ?_) | refine L.pickT (k := ?_) | refine L.pickF (k := ?_) | refine L.want (k := ?_) | refine L.pass (k := ?_) | refine L.not (c := ?_) | refine L.lenS (c := ?_) | refine L.strNe (c := ?_) | refine L.strEq (c := ?_) | refine L.lenV (c := ?_) | refine C.block ?_ | refine D.blkNormal ?_ | refine C.ret ?_ | refine D.thenRet ?_ | refine D.blkRet ?_ | refine C.exit ?_ | refine D.thenExit ?_ | refine D.blkExit ?_ | refine D.blkOther (h := ?_) | refine C.skip ?_ | refine L.convI (c := ?_) | refine L.makeMap (c := fun _ => ?_) | refine D.any ?_ | refine D.seqR (h := ?_) | refine L.eqA (c := ?_) | refine L.neA (c := ?_) | refine L.funNil (c := ?_) | refine L.eqB (c := ?_) | refine L.neB (c := ?_) | refine L.passU (k := ?_) | refine L.makeFunc (k := ?_) | refine L.buildS (c := fun _ => ?_) | exact D.endsQ | refine QL.fin ?_ | refine N.fin (h := ?_) | refine L.assertY (c := ?_) | refine L.assertN (c := ?_) | refine N.one (i := 0) (h := ?_) | refine N.one (i := 1) (h := ?_) | refine N.one (i := 2) (h := ?_) | refine N.one (i := 3) (h := ?_) | refine N.one (i := 4) (h := ?_) | refine N.one (i := 5) (h := ?_) | refine N.one (i := 6) (h := ?_) | refine N.one (i := 7) (h := ?_) | refine N.one (i := 8) (h := ?_) | refine N.one (i := 9) (h := ?_) | refine N.one (i := 10) (h := ?_) | refine N.one (i := 11) (h := ?_) | (refine QL.step (v := ?_) (by exact rfl) (by exact rfl) ?_ ?_; rotate_left))
  refine C.loop (α := (List Ins × OS) × List UInt8) (fun g => osG 9 g.1.1.length (g.1.1.flatMap encI) g.1.2 ∧ g.1.1.length + g.2.length ≤ S ∧ R = ((linesF (S + 1) g.2).1.map (g.1.1 ++ ·), g.1.1.length + (linesF (S + 1) g.2).2))
    (fun g => [(0, tx g.2), (5, osV g.1.1.length g.1.2), (6, .int .i64 (g.1.1.length : Int))]) (fun g => osC 25 g.1.2 []) (fun g => g.2.length) (([], none), s)
    (fun a w hs => hs.lessE rfl (lk_cons rfl (lk_cons rfl (lk_cons rfl (fun _ _ h => lk_nil h))))) ⟨osG.nil, by simp only [List.length_nil]; omega, by rw [hR]; simp only [List.nil_append, List.length_nil, Nat.zero_add]; rw [Option.map_id']⟩ ?_
  rintro ⟨⟨acc, y⟩, r⟩ ⟨hG, hlen, hO⟩
  simp only at hG hlen hO
  dsimp only
  unfold linesF at hO
  by_cases h0 : r = []
  · have c1 : cm .gtr (r.length : Int) 0 = false := by rw [h0]; rfl
    rw [if_pos h0] at hO
    simp only [Option.map_some, List.append_nil, Nat.add_zero] at hO
    rw [hO]
    repeat (first | refine L.txLen (c := ?_) | refine C.seq ?_ | refine C.region ?_ | refine L.nil ?_ | refine D.seq ?_ | refine L.move (k := ?_) | refine L.assign (k := ?_) | refine L.cm (c := ?_) | refine L.ar (c := ?_) | refine L.fieldAddr (c := ?_) | refine L.load1 0 (c := ?_) | refine L.load1 1 (c := ?_) | refine L.load1 2 (c := ?_) | refine L.load1 3 (c := ?_) | refine L.load1 4 (c := ?_) | refine L.loadA 0 (c := ?_) | refine L.loadA 1 (c := ?_) | refine L.loadA 2 (c := ?_) | refine L.loadA 3 (c := ?_) | refine L.loadA 4 (c := ?_) | refine L.storeV 0 (c := ?_) | refine L.storeV 1 (c := ?_) | refine L.storeV 2 (c := ?_) | refine L.storeV 3 (c := ?_) | refine L.storeV 4 (c := ?_) | refine L.extract (c := ?_) | refine L.build (c := ?_) | refine L.alloc (c := fun _ => ?_) | refine L.box (c := fun _ => ?_) | refine L.nilCheck (k := ?_) | refine C.yes (h1 := ?_) | refine C.no (h1 := ?_) | refine L.pickT (k := ?_) | refine L.pickF (k := ?_) | refine L.want (k := ?_) | refine L.pass (k := ?_) | refine L.not (c := ?_) | refine L.lenS (c := ?_) | refine L.strNe (c := ?_) | refine L.strEq (c := ?_) | refine L.lenV (c := ?_) | refine C.block ?_ | refine D.blkNormal ?_ | refine C.ret ?_ | refine D.thenRet ?_ | refine D.blkRet ?_ | refine C.exit ?_ | refine D.thenExit ?_ | refine D.blkExit ?_ | refine D.blkOther (h := ?_) | refine C.skip ?_ | refine L.convI (c := ?_) | refine L.makeMap (c := fun _ => ?_) | refine D.any ?_ | refine D.seqR (h := ?_) | refine L.eqA (c := ?_) | refine L.neA (c := ?_) | refine L.funNil (c := ?_) | refine L.eqB (c := ?_) | refine L.neB (c := ?_) | refine L.passU (k := ?_) | refine L.makeFunc (k := ?_) | refine L.buildS (c := fun _ => ?_) | exact D.endsQ | refine QL.fin ?_ | refine N.fin (h := ?_) | refine L.assertY (c := ?_) | refine L.assertN (c := ?_) | refine N.one (i := 0) (h := ?_) | refine N.one (i := 1) (h := ?_) | refine N.one (i := 2) (h := ?_) | refine N.one (i := 3) (h := ?_) | refine N.one (i := 4) (h := ?_) | refine N.one (i := 5) (h := ?_) | refine N.one (i := 6) (h := ?_) | refine N.one (i := 7) (h := ?_) | refine N.one (i := 8) (h := ?_) | refine N.one (i := 9) (h := ?_) | refine N.one (i := 10) (h := ?_) | refine N.one (i := 11) (h := ?_) | (refine QL.step (v := ?_) (by exact rfl) (by exact rfl) ?_ ?_; rotate_left))
    exact D.ret (vs := [_, _, _]) (RV.tmp rfl (RV.tmp rfl (RV.tmp rfl RV.nil))) (fun w' hw => Post.mkD 0 hw rfl ⟨y, hG, rfl, rfl⟩)
  · have hpos : 0 < r.length := List.length_pos_iff.2 h0
    have c1 : cm .gtr (r.length : Int) 0 = true := cm_gt (by omega)
    rw [if_neg h0] at hO
    have hF := find_S r 10 (by omega)
    rcases cut_find r with ⟨hk, hcut⟩ | ⟨k, hk, hkl, hcut⟩
    · rw [hk] at hF
      rw [hcut] at hO
      simp only [Bool.false_eq_true, if_false, Option.map_none, Nat.add_zero] at hO
      have c2 : cm .lss (-1) 0 = true := rfl
      rw [hO]
      repeat (first | refine L.txLen (c := ?_) | refine C.seq ?_ | refine C.region ?_ | refine L.nil ?_ | refine D.seq ?_ | refine L.move (k := ?_) | refine L.assign (k := ?_) | refine L.cm (c := ?_) | refine L.ar (c := ?_) | refine L.fieldAddr (c := ?_) | refine L.load1 0 (c := ?_) | refine L.load1 1 (c := ?_) | refine L.load1 2 (c := ?_) | refine L.load1 3 (c := ?_) | refine L.load1 4 (c := ?_) | refine L.loadA 0 (c := ?_) | refine L.loadA 1 (c := ?_) | refine L.loadA 2 (c := ?_) | refine L.loadA 3 (c := ?_) | refine L.loadA 4 (c := ?_) | refine L.storeV 0 (c := ?_) | refine L.storeV 1 (c := ?_) | refine L.storeV 2 (c := ?_) | refine L.storeV 3 (c := ?_) | refine L.storeV 4 (c := ?_) | refine L.extract (c := ?_) | refine L.build (c := ?_) | refine L.alloc (c := fun _ => ?_) | refine L.box (c := fun _ => ?_) | refine L.nilCheck (k := ?_) | refine C.yes (h1 := ?_) | refine C.no (h1 := ?_) | refine L.pickT (k := ?_) | refine L.pickF (k := ?_) | refine L.want (k := ?_) | refine L.pass (k := ?_) | refine L.not (c := ?_) | refine L.lenS (c := ?_) | refine L.strNe (c := ?_) | refine L.strEq (c := ?_) | refine L.lenV (c := ?_) | refine C.block ?_ | refine D.blkNormal ?_ | refine C.ret ?_ | refine D.thenRet ?_ | refine D.blkRet ?_ | refine C.exit ?_ | refine D.thenExit ?_ | refine D.blkExit ?_ | refine D.blkOther (h := ?_) | refine C.skip ?_ | refine L.convI (c := ?_) | refine L.makeMap (c := fun _ => ?_) | refine D.any ?_ | refine D.seqR (h := ?_) | refine L.eqA (c := ?_) | refine L.neA (c := ?_) | refine L.funNil (c := ?_) | refine L.eqB (c := ?_) | refine L.neB (c := ?_) | refine L.passU (k := ?_) | refine L.makeFunc (k := ?_) | refine L.buildS (c := fun _ => ?_) | exact D.endsQ | refine QL.fin ?_ | refine N.fin (h := ?_) | refine L.assertY (c := ?_) | refine L.assertN (c := ?_) | refine N.one (i := 0) (h := ?_) | refine N.one (i := 1) (h := ?_) | refine N.one (i := 2) (h := ?_) | refine N.one (i := 3) (h := ?_) | refine N.one (i := 4) (h := ?_) | refine N.one (i := 5) (h := ?_) | refine N.one (i := 6) (h := ?_) | refine N.one (i := 7) (h := ?_) | refine N.one (i := 8) (h := ?_) | refine N.one (i := 9) (h := ?_) | refine N.one (i := 10) (h := ?_) | refine N.one (i := 11) (h := ?_) | (refine QL.step (v := ?_) (by exact rfl) (by exact rfl) ?_ ?_; rotate_left) | refine L.callQ (hF) (k := ?_))
      exact D.ret (vs := [_, _, _]) (RV.tmp rfl (RV.tmp rfl (RV.tmp rfl RV.nil))) (fun w' hw => Post.mk (is := []) hw List.nodup_nil rfl ⟨rfl, rfl⟩)
    · rw [hk] at hF
      rw [hcut] at hO
      simp only [if_true] at hO
      have c2 : cm .lss (k : Int) 0 = false := cm_lo' (by omega)
      have q2 : (r.drop 0).take (k - 0) = r.take k := by rw [List.drop_zero, Nat.sub_zero]
      have q1 : (r.drop (k + 1)).take (r.length - (k + 1)) = r.drop (k + 1) := by rw [List.take_of_length_le]; rw [List.length_drop]; omega
      have hk1 : k + 1 ≤ r.length := by omega
      have hk0 : k ≤ r.length := by omega
      have hRd := rread_S (r.take k) (by rw [List.length_take]; omega)
      rw [refI_eq] at hRd
      have hm1 := hbig (acc.length + 1) (by omega)
      have d1 : ar .add .i64 (acc.length : Int) 1 = ((acc.length + 1 : Nat) : Int) := i64_add (b := 1) (by omega)
      have d2 : ar .add .i64 (k : Int) 1 = ((k + 1 : Nat) : Int) := i64_add (b := 1) (by omega)
      cases hi : readI (r.take k) with
      | none =>
        rw [hi] at hO hRd
        simp only [Option.map_none, Nat.add_zero] at hO
        rw [hO]
        have c3 : cm .neq 7 0 = true := rfl
        repeat (first | refine L.txLen (c := ?_) | refine C.seq ?_ | refine C.region ?_ | refine L.nil ?_ | refine D.seq ?_ | refine L.move (k := ?_) | refine L.assign (k := ?_) | refine L.cm (c := ?_) | refine L.ar (c := ?_) | refine L.fieldAddr (c := ?_) | refine L.load1 0 (c := ?_) | refine L.load1 1 (c := ?_) | refine L.load1 2 (c := ?_) | refine L.load1 3 (c := ?_) | refine L.load1 4 (c := ?_) | refine L.loadA 0 (c := ?_) | refine L.loadA 1 (c := ?_) | refine L.loadA 2 (c := ?_) | refine L.loadA 3 (c := ?_) | refine L.loadA 4 (c := ?_) | refine L.storeV 0 (c := ?_) | refine L.storeV 1 (c := ?_) | refine L.storeV 2 (c := ?_) | refine L.storeV 3 (c := ?_) | refine L.storeV 4 (c := ?_) | refine L.extract (c := ?_) | refine L.build (c := ?_) | refine L.alloc (c := fun _ => ?_) | refine L.box (c := fun _ => ?_) | refine L.nilCheck (k := ?_) | refine C.yes (h1 := ?_) | refine C.no (h1 := ?_) | refine L.pickT (k := ?_) | refine L.pickF (k := ?_) | refine L.want (k := ?_) | refine L.pass (k := ?_) | refine L.not (c := ?_) | refine L.lenS (c := ?_) | refine L.strNe (c := ?_) | refine L.strEq (c := ?_) | refine L.lenV (c := ?_) | refine C.block ?_ | refine D.blkNormal ?_ | refine C.ret ?_ | refine D.thenRet ?_ | refine D.blkRet ?_ | refine C.exit ?_ | refine D.thenExit ?_ | refine D.blkExit ?_ | refine D.blkOther (h := ?_) | refine C.skip ?_ | refine L.convI (c := ?_) | refine L.makeMap (c := fun _ => ?_) | refine D.any ?_ | refine D.seqR (h := ?_) | refine L.eqA (c := ?_) | refine L.neA (c := ?_) | refine L.funNil (c := ?_) | refine L.eqB (c := ?_) | refine L.neB (c := ?_) | refine L.passU (k := ?_) | refine L.makeFunc (k := ?_) | refine L.buildS (c := fun _ => ?_) | exact D.endsQ | refine QL.fin ?_ | refine N.fin (h := ?_) | refine L.assertY (c := ?_) | refine L.assertN (c := ?_) | refine N.one (i := 0) (h := ?_) | refine N.one (i := 1) (h := ?_) | refine N.one (i := 2) (h := ?_) | refine N.one (i := 3) (h := ?_) | refine N.one (i := 4) (h := ?_) | refine N.one (i := 5) (h := ?_) | refine N.one (i := 6) (h := ?_) | refine N.one (i := 7) (h := ?_) | refine N.one (i := 8) (h := ?_) | refine N.one (i := 9) (h := ?_) | refine N.one (i := 10) (h := ?_) | refine N.one (i := 11) (h := ?_) | (refine QL.step (v := ?_) (by exact rfl) (by exact rfl) ?_ ?_; rotate_left) | refine L.callQ (hF) (k := ?_) | refine L.txCut (a := r) (lo := 0) (hi := k) (r := r.take k) (Nat.zero_le _) hk0 q2 (c := ?_))
        refine L.callP [] hRd (k := ?_)
        rintro u B ⟨rfl, rfl⟩
        rw [hdrop_nil, List.nil_append]
        repeat (first | refine C.seq ?_ | refine C.region ?_ | refine L.nil ?_ | refine D.seq ?_ | refine L.move (k := ?_) | refine L.assign (k := ?_) | refine L.cm (c := ?_) | refine L.ar (c := ?_) | refine L.fieldAddr (c := ?_) | refine L.load1 0 (c := ?_) | refine L.load1 1 (c := ?_) | refine L.load1 2 (c := ?_) | refine L.load1 3 (c := ?_) | refine L.load1 4 (c := ?_) | refine L.loadA 0 (c := ?_) | refine L.loadA 1 (c := ?_) | refine L.loadA 2 (c := ?_) | refine L.loadA 3 (c := ?_) | refine L.loadA 4 (c := ?_) | refine L.storeV 0 (c := ?_) | refine L.storeV 1 (c := ?_) | refine L.storeV 2 (c := ?_) | refine L.storeV 3 (c := ?_) | refine L.storeV 4 (c := ?_) | refine L.extract (c := ?_) | refine L.build (c := ?_) | refine L.alloc (c := fun _ => ?_) | refine L.box (c := fun _ => ?_) | refine L.nilCheck (k := ?_) | refine C.yes (h1 := ?_) | refine C.no (h1 := ?_) | refine L.pickT (k := ?_) | refine L.pickF (k := ?_) | refine L.want (k := ?_) | refine L.pass (k := ?_) | refine L.not (c := ?_) | refine L.lenS (c := ?_) | refine L.strNe (c := ?_) | refine L.strEq (c := ?_) | refine L.lenV (c := ?_) | refine C.block ?_ | refine D.blkNormal ?_ | refine C.ret ?_ | refine D.thenRet ?_ | refine D.blkRet ?_ | refine C.exit ?_ | refine D.thenExit ?_ | refine D.blkExit ?_ | refine D.blkOther (h := ?_) | refine C.skip ?_ | refine L.convI (c := ?_) | refine L.makeMap (c := fun _ => ?_) | refine D.any ?_ | refine D.seqR (h := ?_) | refine L.eqA (c := ?_) | refine L.neA (c := ?_) | refine L.funNil (c := ?_) | refine L.eqB (c := ?_) | refine L.neB (c := ?_) | refine L.passU (k := ?_) | refine L.makeFunc (k := ?_) | refine L.buildS (c := fun _ => ?_) | exact D.endsQ | refine QL.fin ?_ | refine N.fin (h := ?_) | refine L.assertY (c := ?_) | refine L.assertN (c := ?_) | refine N.one (i := 0) (h := ?_) | refine N.one (i := 1) (h := ?_) | refine N.one (i := 2) (h := ?_) | refine N.one (i := 3) (h := ?_) | refine N.one (i := 4) (h := ?_) | refine N.one (i := 5) (h := ?_) | refine N.one (i := 6) (h := ?_) | refine N.one (i := 7) (h := ?_) | refine N.one (i := 8) (h := ?_) | refine N.one (i := 9) (h := ?_) | refine N.one (i := 10) (h := ?_) | refine N.one (i := 11) (h := ?_) | (refine QL.step (v := ?_) (by exact rfl) (by exact rfl) ?_ ?_; rotate_left))
        exact D.ret (vs := [_, _, _]) (RV.tmp rfl (RV.tmp rfl (RV.tmp rfl RV.nil))) (fun w' hw => Post.mk (is := []) hw List.nodup_nil rfl ⟨rfl, rfl⟩)
      | some i =>
        rw [hi] at hO hRd
        simp only at hO
        have c3 : cm .neq 0 0 = false := rfl
        have hla : (acc ++ [i]).length = acc.length + 1 := by simp
        have hva : (acc ++ [i]).flatMap encI = acc.flatMap encI ++ i.cells := by rw [List.flatMap_append]; simp [encI]
        repeat (first | refine L.txLen (c := ?_) | refine C.seq ?_ | refine C.region ?_ | refine L.nil ?_ | refine D.seq ?_ | refine L.move (k := ?_) | refine L.assign (k := ?_) | refine L.cm (c := ?_) | refine L.ar (c := ?_) | refine L.fieldAddr (c := ?_) | refine L.load1 0 (c := ?_) | refine L.load1 1 (c := ?_) | refine L.load1 2 (c := ?_) | refine L.load1 3 (c := ?_) | refine L.load1 4 (c := ?_) | refine L.loadA 0 (c := ?_) | refine L.loadA 1 (c := ?_) | refine L.loadA 2 (c := ?_) | refine L.loadA 3 (c := ?_) | refine L.loadA 4 (c := ?_) | refine L.storeV 0 (c := ?_) | refine L.storeV 1 (c := ?_) | refine L.storeV 2 (c := ?_) | refine L.storeV 3 (c := ?_) | refine L.storeV 4 (c := ?_) | refine L.extract (c := ?_) | refine L.build (c := ?_) | refine L.alloc (c := fun _ => ?_) | refine L.box (c := fun _ => ?_) | refine L.nilCheck (k := ?_) | refine C.yes (h1 := ?_) | refine C.no (h1 := ?_) | refine L.pickT (k := ?_) | refine L.pickF (k := ?_) | refine L.want (k := ?_) | refine L.pass (k := ?_) | refine L.not (c := ?_) | refine L.lenS (c := ?_) | refine L.strNe (c := ?_) | refine L.strEq (c := ?_) | refine L.lenV (c := ?_) | refine C.block ?_ | refine D.blkNormal ?_ | refine C.ret ?_ | refine D.thenRet ?_ | refine D.blkRet ?_ | refine C.exit ?_ | refine D.thenExit ?_ | refine D.blkExit ?_ | refine D.blkOther (h := ?_) | refine C.skip ?_ | refine L.convI (c := ?_) | refine L.makeMap (c := fun _ => ?_) | refine D.any ?_ | refine D.seqR (h := ?_) | refine L.eqA (c := ?_) | refine L.neA (c := ?_) | refine L.funNil (c := ?_) | refine L.eqB (c := ?_) | refine L.neB (c := ?_) | refine L.passU (k := ?_) | refine L.makeFunc (k := ?_) | refine L.buildS (c := fun _ => ?_) | exact D.endsQ | refine QL.fin ?_ | refine N.fin (h := ?_) | refine L.assertY (c := ?_) | refine L.assertN (c := ?_) | refine N.one (i := 0) (h := ?_) | refine N.one (i := 1) (h := ?_) | refine N.one (i := 2) (h := ?_) | refine N.one (i := 3) (h := ?_) | refine N.one (i := 4) (h := ?_) | refine N.one (i := 5) (h := ?_) | refine N.one (i := 6) (h := ?_) | refine N.one (i := 7) (h := ?_) | refine N.one (i := 8) (h := ?_) | refine N.one (i := 9) (h := ?_) | refine N.one (i := 10) (h := ?_) | refine N.one (i := 11) (h := ?_) | (refine QL.step (v := ?_) (by exact rfl) (by exact rfl) ?_ ?_; rotate_left) | refine L.callQ (hF) (k := ?_) | refine L.txCut (a := r) (lo := 0) (hi := k) (r := r.take k) (Nat.zero_le _) hk0 q2 (c := ?_))
        refine L.callP [] hRd (k := ?_)
        rintro u B ⟨rfl, rfl⟩
        rw [hdrop_nil, List.nil_append]
        repeat (first | refine C.seq ?_ | refine C.region ?_ | refine L.nil ?_ | refine D.seq ?_ | refine L.move (k := ?_) | refine L.assign (k := ?_) | refine L.cm (c := ?_) | refine L.ar (c := ?_) | refine L.fieldAddr (c := ?_) | refine L.load1 0 (c := ?_) | refine L.load1 1 (c := ?_) | refine L.load1 2 (c := ?_) | refine L.load1 3 (c := ?_) | refine L.load1 4 (c := ?_) | refine L.loadA 0 (c := ?_) | refine L.loadA 1 (c := ?_) | refine L.loadA 2 (c := ?_) | refine L.loadA 3 (c := ?_) | refine L.loadA 4 (c := ?_) | refine L.storeV 0 (c := ?_) | refine L.storeV 1 (c := ?_) | refine L.storeV 2 (c := ?_) | refine L.storeV 3 (c := ?_) | refine L.storeV 4 (c := ?_) | refine L.extract (c := ?_) | refine L.build (c := ?_) | refine L.alloc (c := fun _ => ?_) | refine L.box (c := fun _ => ?_) | refine L.nilCheck (k := ?_) | refine C.yes (h1 := ?_) | refine C.no (h1 := ?_) | refine L.pickT (k := ?_) | refine L.pickF (k := ?_) | refine L.want (k := ?_) | refine L.pass (k := ?_) | refine L.not (c := ?_) | refine L.lenS (c := ?_) | refine L.strNe (c := ?_) | refine L.strEq (c := ?_) | refine L.lenV (c := ?_) | refine C.block ?_ | refine D.blkNormal ?_ | refine C.ret ?_ | refine D.thenRet ?_ | refine D.blkRet ?_ | refine C.exit ?_ | refine D.thenExit ?_ | refine D.blkExit ?_ | refine D.blkOther (h := ?_) | refine C.skip ?_ | refine L.convI (c := ?_) | refine L.makeMap (c := fun _ => ?_) | refine D.any ?_ | refine D.seqR (h := ?_) | refine L.eqA (c := ?_) | refine L.neA (c := ?_) | refine L.funNil (c := ?_) | refine L.eqB (c := ?_) | refine L.neB (c := ?_) | refine L.passU (k := ?_) | refine L.makeFunc (k := ?_) | refine L.buildS (c := fun _ => ?_) | exact D.endsQ | refine QL.fin ?_ | refine N.fin (h := ?_) | refine L.assertY (c := ?_) | refine L.assertN (c := ?_) | refine N.one (i := 0) (h := ?_) | refine N.one (i := 1) (h := ?_) | refine N.one (i := 2) (h := ?_) | refine N.one (i := 3) (h := ?_) | refine N.one (i := 4) (h := ?_) | refine N.one (i := 5) (h := ?_) | refine N.one (i := 6) (h := ?_) | refine N.one (i := 7) (h := ?_) | refine N.one (i := 8) (h := ?_) | refine N.one (i := 9) (h := ?_) | refine N.one (i := 10) (h := ?_) | refine N.one (i := 11) (h := ?_) | (refine QL.step (v := ?_) (by exact rfl) (by exact rfl) ?_ ?_; rotate_left))
        rename_i nb
        refine L.appendU [_, _] (L2 := []) (y := y) (m := acc.length) (u := .slice (some ⟨nb, 0, none⟩) 1 1) (k := 1) (news := i.cells) hG rfl (fun w hw => Rd.own (hw.holds _ List.mem_cons_self) (by simp) (Nat.le_refl _) 9 rfl) rfl (by have := encI_ones [i]; simpa [encI] using this) hm1 (by omega) (c := fun y' hG' _ => ?_)
        simp only [List.cons_append, List.nil_append]
        repeat (first | refine C.seq ?_ | refine C.region ?_ | refine L.nil ?_ | refine D.seq ?_ | refine L.move (k := ?_) | refine L.assign (k := ?_) | refine L.cm (c := ?_) | refine L.ar (c := ?_) | refine L.fieldAddr (c := ?_) | refine L.load1 0 (c := ?_) | refine L.load1 1 (c := ?_) | refine L.load1 2 (c := ?_) | refine L.load1 3 (c := ?_) | refine L.load1 4 (c := ?_) | refine L.loadA 0 (c := ?_) | refine L.loadA 1 (c := ?_) | refine L.loadA 2 (c := ?_) | refine L.loadA 3 (c := ?_) | refine L.loadA 4 (c := ?_) | refine L.storeV 0 (c := ?_) | refine L.storeV 1 (c := ?_) | refine L.storeV 2 (c := ?_) | refine L.storeV 3 (c := ?_) | refine L.storeV 4 (c := ?_) | refine L.extract (c := ?_) | refine L.build (c := ?_) | refine L.alloc (c := fun _ => ?_) | refine L.box (c := fun _ => ?_) | refine L.nilCheck (k := ?_) | refine C.yes (h1 := ?_) | refine C.no (h1 := ?_) | refine L.pickT (k := ?_) | refine L.pickF (k := ?_) | refine L.want (k := ?_) | refine L.pass (k := ?_) | refine L.not (c := ?_) | refine L.lenS (c := ?_) | refine L.strNe (c := ?_) | refine L.strEq (c := ?_) | refine L.lenV (c := ?_) | refine C.block ?_ | refine D.blkNormal ?_ | refine C.ret ?_ | refine D.thenRet ?_ | refine D.blkRet ?_ | refine C.exit ?_ | refine D.thenExit ?_ | refine D.blkExit ?_ | refine D.blkOther (h := ?_) | refine C.skip ?_ | refine L.convI (c := ?_) | refine L.makeMap (c := fun _ => ?_) | refine D.any ?_ | refine D.seqR (h := ?_) | refine L.eqA (c := ?_) | refine L.neA (c := ?_) | refine L.funNil (c := ?_) | refine L.eqB (c := ?_) | refine L.neB (c := ?_) | refine L.passU (k := ?_) | refine L.makeFunc (k := ?_) | refine L.buildS (c := fun _ => ?_) | exact D.endsQ | refine QL.fin ?_ | refine N.fin (h := ?_) | refine L.assertY (c := ?_) | refine L.assertN (c := ?_) | refine N.one (i := 0) (h := ?_) | refine N.one (i := 1) (h := ?_) | refine N.one (i := 2) (h := ?_) | refine N.one (i := 3) (h := ?_) | refine N.one (i := 4) (h := ?_) | refine N.one (i := 5) (h := ?_) | refine N.one (i := 6) (h := ?_) | refine N.one (i := 7) (h := ?_) | refine N.one (i := 8) (h := ?_) | refine N.one (i := 9) (h := ?_) | refine N.one (i := 10) (h := ?_) | refine N.one (i := 11) (h := ?_) | (refine QL.step (v := ?_) (by exact rfl) (by exact rfl) ?_ ?_; rotate_left) | refine L.txCut (a := r) (lo := k + 1) (hi := r.length) (r := r.drop (k + 1)) hk1 (Nat.le_refl _) q1 (c := ?_))
        have hrl : (r.drop (k + 1)).length = r.length - (k + 1) := List.length_drop
        exact D.then_ fun a1 w1 hs => ⟨((acc ++ [i], y'), r.drop (k + 1)), ⟨by rw [hla, hva]; exact hG', by simp only; rw [hla, hrl]; omega, by
            simp only
            rw [hO, hla, Option.map_map, linesF_more S (r.drop (k + 1)) (by rw [hrl]; omega) (S + 1) (by omega)]
            refine Prod.ext ?_ (by simp only; omega)
            refine congrArg (fun f => Option.map f _) (funext fun q => ?_)
            simp⟩, by simp only; rw [hrl]; omega, by
            simp only
            rw [hla]
            exact hs.lessD 2 rfl (lk_cons rfl (lk_cons rfl (lk_cons rfl (fun _ _ h => lk_nil h))))⟩
end Go.Proofs.YtokcamgipnaoeaaGreatDoor.Ls
