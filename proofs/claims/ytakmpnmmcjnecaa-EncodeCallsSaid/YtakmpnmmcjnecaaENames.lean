/- keysmithlaw06.EncodeNames: the chapter's examples. No condition. -/
import Derived.Test.YtakmpnmmcjnecaaAll
namespace Go.Proofs.Ytakmpnmmcjnecaa
open Go.RowKit Calm

theorem flat_get (l : List Ins) : ∀ (j : Nat) (x : Ins), l[j]? = some x → ∀ (k : Nat) (v : Value), x.vs[k]? = some v → (l.flatMap Ins.vs)[j * 9 + k]? = some v := by
  induction l with
  | nil => intro j x h; simp at h
  | cons y l ih =>
    intro j x h k v hv
    have hk : k < 9 := by
      rcases Nat.lt_or_ge k 9 with h | h
      · exact h
      · rw [List.getElem?_eq_none (by show 9 ≤ k; exact h)] at hv; simp at hv
    have hy : y.vs.length = 9 := rfl
    rw [List.flatMap_cons]
    cases j with
    | zero =>
      simp only [List.getElem?_cons_zero, Option.some.injEq] at h
      subst h
      rw [List.getElem?_append_left (by omega)]
      simpa using hv
    | succ j =>
      rw [List.getElem?_cons_succ] at h
      rw [List.getElem?_append_right (by omega), hy, show (j + 1) * 9 + k - 9 = j * 9 + k by omega]
      exact ih j x h k v hv
theorem insRow_lit (w : World) (l : List Ins) (cs : Array Value) (h : cs.toList = l.flatMap Ins.vs) (t : TypeId) : InsRow (w.alloc (.cells cs t)) w.heap.size 0 l := by
  intro j x hx k v hv
  have := flat_get l j x hx k v hv
  rw [World.cell?_alloc_new, ← Array.getElem?_toList, h]
  simpa using this
theorem all_lit (w : World) (l : List Ins) (cs : Array Value) (n : Nat) (h : cs.toList = l.flatMap Ins.vs) (t : TypeId) (hl : l.length ≤ 1000) (hok : ∀ x ∈ l, x.ok) (hn : n = l.length) (B : ByteArray) (k : Int) (hB : outs l = B) (hk : errOf (allOk l) = k) :
    Calls Try.prog 18 #[.slice (some ⟨w.heap.size, 0, none⟩) n n] (w.alloc (.cells cs t)) fun e w' => e = .returned (.tuple #[.string B, .int .i64 k]) ∧ Below w.heap.size (w.alloc (.cells cs t)) w' := by
  subst hn
  rw [← hB, ← hk]
  exact (all_any w.heap.size 0 l.length l _ hl hok (insRow_lit w l cs h t) (by simp)).mono fun e w' ⟨a, b⟩ => ⟨a, b.mono (by simp)⟩
theorem n_r : outs [⟨33, 0, 0, 0, 0, 0, 0, 0, 0⟩, ⟨28, 0, 8, 0, 0, 0, 0, 0, 0⟩] = ⟨#[195, 65, 80]⟩ := by kernel_rfl
theorem n_s : outs [⟨33, 0, 0, 0, 0, 0, 0, 0, 0⟩, ⟨0, 0, 0, 0, 0, 0, 0, 0, 0⟩] = ⟨#[]⟩ := by kernel_rfl
theorem n_0 : outE 0 0 0 0 0 0 0 0 0 = ⟨#[]⟩ := by kernel_rfl
theorem n_1 : outE 3 0 0 0 5 (-1) 1 0 0 = ⟨#[72, 139, 69, 0]⟩ := by kernel_rfl
theorem n_2 : outE 4 0 2 0 13 12 4 128 0 = ⟨#[75, 137, 148, 165, 128, 0, 0, 0]⟩ := by kernel_rfl
theorem n_3 : outE 2 9 0 0 0 0 0 0 (-2) = ⟨#[73, 185, 254, 255, 255, 255, 255, 255, 255, 255]⟩ := by kernel_rfl
theorem n_4 : outE 17 4 0 0 0 0 0 0 16 = ⟨#[72, 129, 236, 16, 0, 0, 0]⟩ := by kernel_rfl
theorem n_5 : outE 21 8 0 0 0 0 0 0 0 = ⟨#[243, 76, 15, 56, 246, 192]⟩ := by kernel_rfl
theorem n_6 : outE 25 3 0 0 0 0 0 0 63 = ⟨#[72, 193, 235, 63]⟩ := by kernel_rfl
theorem n_7 : outE 26 0 15 0 0 0 0 0 0 = ⟨#[73, 15, 66, 199]⟩ := by kernel_rfl
theorem n_8 : outE 31 0 0 0 0 0 0 0 (-6) = ⟨#[15, 133, 250, 255, 255, 255]⟩ := by kernel_rfl
theorem n_9 : outE 2 0 0 0 0 0 0 0 0 = ⟨#[72, 184, 0, 0, 0, 0, 0, 0, 0, 0]⟩ := by kernel_rfl
theorem ok0 : ∀ x ∈ [(⟨33, 0, 0, 0, 0, 0, 0, 0, 0⟩ : Ins), ⟨28, 0, 8, 0, 0, 0, 0, 0, 0⟩], x.ok := by
  intro x hx; simp at hx; rcases hx with rfl | rfl <;> (unfold Ins.ok; simp)
theorem ok1 : ∀ x ∈ [(⟨33, 0, 0, 0, 0, 0, 0, 0, 0⟩ : Ins), ⟨0, 0, 0, 0, 0, 0, 0, 0, 0⟩], x.ok := by
  intro x hx; simp at hx; rcases hx with rfl | rfl <;> (unfold Ins.ok; simp)
attribute [local irreducible] outE chk outs allOk
set_option maxRecDepth 100000 in
set_option maxHeartbeats 4000000 in
theorem eNames_walk (w : World) : Calls Try.prog 5 #[] w fun e w' => e = .returned (.bool true) ∧ Below w.heap.size w w' := by
  go_enter Try.func5, Try.ntmps5
  simp only [List.append_eq, List.cons_append, List.nil_append]
  go_wp2_with fail
  go_at_call 13
  refine (lives_any _).mono ?_
  rintro e w1 ⟨rfl, hb1⟩
  go_wp2_with fail
  go_at_call 17
  refine (einst_eq _ _ _ _ _ _ _ _ _ _ _ (by decide) (by decide) 2 n_0 (by kernel_rfl)).mono ?_
  rintro e w2 ⟨rfl, hb2⟩
  go_wp2_with fail
  go_at_call 18
  refine (all_lit w2 [⟨33, 0, 0, 0, 0, 0, 0, 0, 0⟩, ⟨28, 0, 8, 0, 0, 0, 0, 0, 0⟩] _ _ rfl _ (by decide) ok0 rfl _ 0 n_r (by kernel_rfl)).mono ?_
  rintro e w3 ⟨rfl, hb3⟩
  go_wp2_with fail
  go_at_call 18
  refine (all_lit w3 [⟨33, 0, 0, 0, 0, 0, 0, 0, 0⟩, ⟨0, 0, 0, 0, 0, 0, 0, 0, 0⟩] _ _ rfl _ (by decide) ok1 rfl _ 2 n_s (by kernel_rfl)).mono ?_
  rintro e w4 ⟨rfl, hb4⟩
  have hW : Below (w1.heap.size + 2) ((w1.alloc (.cells #[.int .i64 5, .int .i64 (-1), .int .i64 1, .int .i64 0] 23)).alloc (.cells #[.int .i64 13, .int .i64 12, .int .i64 4, .int .i64 128] 23)) w4 := by
    have z2 := hb2.size
    have z3 := hb3.size
    simp only [World.size_alloc] at hb2 z2 z3
    have y2 : Below (w1.heap.size + 2) w2 w3 := ((bal (Below.refl _ _) _).trans hb3).mono (by omega)
    have y3 : Below (w1.heap.size + 2) w3 w4 := ((bal (Below.refl _ _) _).trans hb4).mono (by omega)
    exact (hb2.trans y2).trans y3
  have hB : Below w.heap.size w w4 := (bal (bal hb1 _) _).trans (hW.mono (by have := hb1.size; omega))
  have z4 : w1.heap.size + 2 ≤ w4.heap.size := by have := hW.size; simp at this; omega
  have a0 : w4.cell? ⟨w1.heap.size, 0, none⟩ = some (.int .i64 5) := cellk hW (by simp) (by go_simp)
  have a1 : w4.cell? ⟨w1.heap.size, 1, none⟩ = some (.int .i64 (-1)) := cellk hW (by simp) (by go_simp)
  have a2 : w4.cell? ⟨w1.heap.size, 2, none⟩ = some (.int .i64 1) := cellk hW (by simp) (by go_simp)
  have a3 : w4.cell? ⟨w1.heap.size, 3, none⟩ = some (.int .i64 0) := cellk hW (by simp) (by go_simp)
  have b0 : w4.cell? ⟨w1.heap.size + 1, 0, none⟩ = some (.int .i64 13) := cellk hW (by simp) (by go_simp)
  have b1 : w4.cell? ⟨w1.heap.size + 1, 1, none⟩ = some (.int .i64 12) := cellk hW (by simp) (by go_simp)
  have b2 : w4.cell? ⟨w1.heap.size + 1, 2, none⟩ = some (.int .i64 4) := cellk hW (by simp) (by go_simp)
  have b3 : w4.cell? ⟨w1.heap.size + 1, 3, none⟩ = some (.int .i64 128) := cellk hW (by simp) (by go_simp)
  clear hb1 hb2 hb3 hb4 hW
  go_wp2_with fail
  go_at_call 19
  refine (put_any _ _ _ _ _ _ _ _ _ _ (by decide) (by decide)).mono ?_
  rw [n_1]
  rintro e w5 ⟨rfl, hb5⟩
  have c0 : w5.cell? ⟨w1.heap.size + 1, 0, none⟩ = some (.int .i64 13) := cellk hb5 (by simp; omega) b0
  have c1 : w5.cell? ⟨w1.heap.size + 1, 1, none⟩ = some (.int .i64 12) := cellk hb5 (by simp; omega) b1
  have c2 : w5.cell? ⟨w1.heap.size + 1, 2, none⟩ = some (.int .i64 4) := cellk hb5 (by simp; omega) b2
  have c3 : w5.cell? ⟨w1.heap.size + 1, 3, none⟩ = some (.int .i64 128) := cellk hb5 (by simp; omega) b3
  clear a0 a1 a2 a3 b0 b1 b2 b3
  replace hB := hB.trans (hb5.mono hB.size)
  clear hb5
  go_wp2_with (first | (go_at_call 19; refine (put_any _ _ _ _ _ _ _ _ _ _ (by decide) (by decide)).mono ?_; (first | rw [n_2] | rw [n_3] | rw [n_4] | rw [n_5] | rw [n_6] | rw [n_7] | rw [n_8]); rintro e w' ⟨rfl, hb⟩; replace hB := hB.trans (hb.mono hB.size); clear hb) | (go_at_call 20; refine (size_any _ _ _ _ _ _ _ _ _ _ (by decide) (by decide)).mono ?_; (first | rw [n_0] | rw [n_9]); rintro e w' ⟨rfl, hb⟩; replace hB := hB.trans (hb.mono hB.size); clear hb))
  go_ret
  exact ⟨rfl, hB⟩
end Go.Proofs.Ytakmpnmmcjnecaa
