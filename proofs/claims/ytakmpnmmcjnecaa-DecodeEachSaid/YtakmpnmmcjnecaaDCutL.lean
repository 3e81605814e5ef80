/- What is put of what was read: plain. -/
import Derived.Test.YtakmpnmmcjnecaaDC
import Derived.Test.YtakmpnmmcjnecaaDC
namespace Go.Proofs.Ytakmpnmmcjnecaa
open Go.RowKit Calm SL
attribute [local irreducible] SL.L SL.C SL.D SL.N SL.H SL.QL

theorem out_bytes {x : Ins} (hc : x.chk = true) : bytesOf x.out = x.enc := by rw [Ins.out_ok hc, bytesOf_strB (Ins.enc_bytes hc).1]
theorem out_size {x : Ins} (hc : x.chk = true) : x.out.size = x.enc.length := by rw [← bytesOf_length, out_bytes hc]
theorem bytes_app (a b : ByteArray) : bytesOf (a ++ b) = bytesOf a ++ bytesOf b := by unfold bytesOf; simp
theorem catO_bytes : ∀ (l : List Ins) (r : ByteArray), allOk l = true → bytesOf (l.foldl (fun r x => r ++ x.out) r) = bytesOf r ++ l.flatMap Ins.enc
  | [], r, _ => by simp
  | x :: l, r, h => by
    unfold allOk at h
    simp only [List.all_cons, Bool.and_eq_true] at h
    rw [List.foldl_cons, catO_bytes l _ h.2, bytes_app, out_bytes h.1, List.flatMap_cons, List.append_assoc]
/-- The rows that decode.All reads, put again. -/
theorem rows_put (code : ByteArray) : allOk ((rows (bytesOf code) 0).map (·.2)) = true ∧ bytesOf (outs ((rows (bytesOf code) 0).map (·.2))) = (bytesOf code).take (endOf (rows (bytesOf code) 0)) ∧ endOf (rows (bytesOf code) 0) ≤ code.size ∧
    (endOf (rows (bytesOf code) 0) < code.size → (rdD ((bytesOf code).drop (endOf (rows (bytesOf code) 0)))).2.2 = 4) ∧ (∀ x ∈ (rows (bytesOf code) 0).map (·.2), x.ok) ∧ ((rows (bytesOf code) 0).map (·.2)).length ≤ code.size := by
  obtain ⟨g1, g2, g3, g4, g5⟩ := rows_end (bytesOf code) 0 (bytes_all code)
  rw [Nat.sub_zero] at g1 g3 g4
  rw [bytesOf_length] at g3
  have hok : allOk ((rows (bytesOf code) 0).map (·.2)) = true := by
    unfold allOk
    rw [List.all_eq_true]
    intro x hx
    obtain ⟨p, hp, rfl⟩ := List.mem_map.1 hx
    exact (g5 p hp).2
  refine ⟨hok, ?_, g3, ?_, ?_, ?_⟩
  · rw [outs_ok _ hok]
    unfold catO
    rw [catO_bytes _ _ hok, List.flatMap_map, g1]
    rfl
  · intro hlt
    rcases g4 with g4 | g4
    · have := congrArg List.length g4
      rw [List.length_drop, bytesOf_length, List.length_nil] at this
      have h2 : code.size - endAt 0 (rows (bytesOf code) 0) = 0 := this
      have h3 : endAt 0 (rows (bytesOf code) 0) < code.size := hlt
      omega
    · rw [rd_err _ g4]
  · intro x hx
    obtain ⟨p, hp, rfl⟩ := List.mem_map.1 hx
    exact (g5 p hp).1
  · rw [List.length_map]
    have := rows_length (bytesOf code) 0
    rwa [bytesOf_length] at this
end Go.Proofs.Ytakmpnmmcjnecaa
