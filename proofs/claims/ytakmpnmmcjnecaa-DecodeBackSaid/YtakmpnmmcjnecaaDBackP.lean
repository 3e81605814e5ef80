/- Plain laws: what is put is read as it was. No program in sight. -/
import Derived.Test.YtakmpnmmcjnecaaDCutL
namespace Go.Proofs.Ytakmpnmmcjnecaa

theorem rows_back : ∀ (l : List Ins) (a : Nat), allOk l = true → (∀ x ∈ l, x.ok) → (rows (l.flatMap Ins.enc) a).map (·.2) = l ∧ endAt a (rows (l.flatMap Ins.enc) a) = a + (l.flatMap Ins.enc).length
  | [], a, _, _ => by
    have e : rows [] a = [] := by rw [rows, dif_neg (fun h => h.1 rfl)]
    simp [e, endAt]
  | x :: l, a, h, hok => by
    unfold allOk at h
    simp only [List.all_cons, Bool.and_eq_true] at h
    have hx := hok x List.mem_cons_self
    have hl := Ins.enc_bytes h.1
    have hh := rd_hit x (l.flatMap Ins.enc) h.1 hx
    obtain ⟨g1, g2⟩ := rows_back l (a + x.enc.length) h.2 (fun y hy => hok y (List.mem_cons_of_mem _ hy))
    have e : rows ((x :: l).flatMap Ins.enc) a = (a, x) :: rows (l.flatMap Ins.enc) (a + x.enc.length) := by
      rw [List.flatMap_cons, rows, dif_pos ⟨by intro h0; have := congrArg List.length h0; rw [List.length_append, List.length_nil] at this; have h9 := hl.2.1; omega, by rw [hh]; exact hl.2.1, by rw [hh]⟩, hh]
      simp only
      rw [List.drop_left]
    rw [e]
    refine ⟨by rw [List.map_cons, g1], ?_⟩
    rw [endAt_cons, g2, List.flatMap_cons, List.length_append]; omega
end Go.Proofs.Ytakmpnmmcjnecaa
