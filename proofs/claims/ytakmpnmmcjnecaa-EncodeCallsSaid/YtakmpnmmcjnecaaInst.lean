/- The walks of package inst (layer 5), up to Check: what each of its functions answers. Conditions: none, but that numbers are of their kinds. -/
import Derived.Test.YtakmpnmmcjnecaaForms
import Derived.WalkKit
import Derived.WalkSpells
import Derived.WalkLawsBesides
import Derived.BigGuardPart
namespace Go.Proofs.Ytakmpnmmcjnecaa
open Go.RowKit Calm

theorem ret_bool {a b : Bool} (h : a = b) : Ending.returned (.bool a) = .returned (.bool b) := by rw [h]
theorem ret_int {k : IntKind} {a b : Int} (h : a = b) : Ending.returned (.int k a) = .returned (.int k b) := by rw [h]
theorem bcell {W w1 : World} (hb : Below W.heap.size W w1) : (∀ b o, b < W.heap.size → w1.cell? ⟨b, o, none⟩ = W.cell? ⟨b, o, none⟩) ∧ (∀ b o, b < W.heap.size → w1.frozen? ⟨b, o, none⟩ = W.frozen? ⟨b, o, none⟩) :=
  ⟨fun b o h => hb.cell (p := ⟨b, o, none⟩) h, fun b o h => hb.frozen (p := ⟨b, o, none⟩) h⟩

theorem bal {W w1 : World} (h : Below W.heap.size W w1) (o : Obj) : Below W.heap.size W (w1.alloc o) := h.alloc h.size o

def has (f k : Int) : Bool := bits .and .i64 f k != 0
theorem has_any (n : ByteArray) (a b c k : Int) (w : World) :
    Calls Try.prog 45 #[.agg #[.string n, .int .i64 a, .int .i64 b, .int .i64 c], .int .i64 k] w fun e w' => e = .returned (.bool (has a k)) ∧ w.alloc (.cells #[.string n, .int .i64 a, .int .i64 b, .int .i64 c] 81) = w' := by
  go_enter Try.func45, Try.ntmps45
  go_wp2
  go_ret
  exact ⟨rfl, rfl⟩
def reg (r : Int) : Bool := decide (0 ≤ r) && decide (r ≤ 15)
theorem register_any (r : Int) (w : World) :
    Calls Try.prog 46 #[.int .i64 r] w fun e w' => e = .returned (.bool (reg r)) ∧ w = w' := by
  by_cases h : 0 ≤ r
  · have h2 : Hid (decide (r ≤ 15) = reg r) := by show _ = _; simp [reg, h]
    go_enter Try.func46, Try.ntmps46
    go_wp2
    go_ret
    exact ⟨ret_bool (by first | exact h2.out | (rw [← h2.out]; simp)), rfl⟩
  · have h2 : Hid (false = reg r) := by show _ = _; simp [reg, h]
    have h3 : decide (0 ≤ r) = false := by simpa using h
    go_enter Try.func46, Try.ntmps46
    go_wp2
    go_ret
    exact ⟨ret_bool h2.out, rfl⟩
def smallB (n : Int) : Bool := decide (-2147483648 ≤ n) && decide (n ≤ 2147483647)
theorem small_any (n : Int) (w : World) (h : -9223372036854775808 ≤ n ∧ n ≤ 9223372036854775807) :
    Calls Try.prog 77 #[.int .i64 n] w fun e w' => e = .returned (.bool (smallB n)) ∧ w = w' := by
  have h2 : Hid ((n == wrap64 (wrap32 n)) = smallB n) := by
    show _ = _
    unfold wrap64 wrap32 smallB
    rw [Bool.eq_iff_iff]; simp; omega
  go_enter Try.func77, Try.ntmps77
  go_wp2
  go_ret
  exact ⟨ret_bool h2.out, rfl⟩
def numOk (f n : Int) : Bool := if has f 32 then true else if has f 16 then smallB n else if has f 64 then decide (1 ≤ n) && decide (n ≤ 63) else n == 0
set_option maxHeartbeats 1000000 in
theorem number_any (nm : ByteArray) (a b c n : Int) (w : World) (h : -9223372036854775808 ≤ n ∧ n ≤ 9223372036854775807) :
    Calls Try.prog 44 #[.agg #[.string nm, .int .i64 a, .int .i64 b, .int .i64 c], .int .i64 n] w fun e w' => e = .returned (.bool (numOk a n)) ∧ Below w.heap.size w w' := by
  have B1 : ∀ o, Below w.heap.size w (w.alloc o) := fun o => (Below.refl _ _).alloc (Nat.le_refl _) o
  by_cases h1 : has a 32 = true
  · have h2 : Hid (true = numOk a n) := by show _ = _; simp [numOk, h1]
    go_enter Try.func44, Try.ntmps44
    go_wp2_with (go_at_call 45; refine (has_any _ _ _ _ _ _).mono ?_; rintro e w' ⟨rfl, rfl⟩)
    go_ret
    exact ⟨ret_bool h2.out, bal (B1 _) _⟩
  · have h1 : has a 32 = false := by simpa using h1
    by_cases h3 : has a 16 = true
    · have h2 : Hid (smallB n = numOk a n) := by show _ = _; simp [numOk, h1, h3]
      go_enter Try.func44, Try.ntmps44
      go_wp2_with (first | (go_at_call 45; refine (has_any _ _ _ _ _ _).mono ?_; rintro e w' ⟨rfl, rfl⟩) | (go_at_call 77; refine (small_any _ _ h).mono ?_; rintro e w' ⟨rfl, rfl⟩))
      go_ret
      exact ⟨ret_bool h2.out, bal (bal (B1 _) _) _⟩
    · have h3 : has a 16 = false := by simpa using h3
      by_cases h4 : has a 64 = true
      · by_cases h5 : 1 ≤ n
        · have h2 : Hid (decide (n ≤ 63) = numOk a n) := by show _ = _; simp [numOk, h1, h3, h4, h5]
          go_enter Try.func44, Try.ntmps44
          go_wp2_with (go_at_call 45; refine (has_any _ _ _ _ _ _).mono ?_; rintro e w' ⟨rfl, rfl⟩)
          go_ret
          exact ⟨ret_bool (by first | exact h2.out | (rw [← h2.out]; simp)), bal (bal (bal (B1 _) _) _) _⟩
        · have h2 : Hid (false = numOk a n) := by show _ = _; simp [numOk, h1, h3, h4, h5]
          have h6 : decide (1 ≤ n) = false := by simpa using h5
          go_enter Try.func44, Try.ntmps44
          go_wp2_with (go_at_call 45; refine (has_any _ _ _ _ _ _).mono ?_; rintro e w' ⟨rfl, rfl⟩)
          go_ret
          exact ⟨ret_bool h2.out, bal (bal (bal (B1 _) _) _) _⟩
      · have h4 : has a 64 = false := by simpa using h4
        have h2 : Hid ((n == 0) = numOk a n) := by show _ = _; simp [numOk, h1, h3, h4]
        go_enter Try.func44, Try.ntmps44
        go_wp2_with (go_at_call 45; refine (has_any _ _ _ _ _ _).mono ?_; rintro e w' ⟨rfl, rfl⟩)
        go_ret
        exact ⟨ret_bool h2.out, bal (bal (bal (B1 _) _) _) _⟩

def SomeIdx (zs : List Int) (v : Int) (e : Ending) : Prop := ∃ r : Int, e = .returned (.int .i64 r) ∧ (decide (0 ≤ r) = decide (v ∈ zs))
set_option maxHeartbeats 1000000 in
theorem index_any (b off cap : Nat) (zs : List Int) (v : Int) (w : World) (hl : zs.length ≤ 1000) (hc : ∀ j, j < zs.length → w.cell? ⟨b, off + j, none⟩ = some (.int .i64 (zs.getD j 0))) :
    Calls Try.prog 89 #[.slice (some ⟨b, off, none⟩) zs.length cap, .int .i64 v] w fun e w' => SomeIdx zs v e ∧ w = w' := by
  go_enter Try.func89, Try.ntmps89
  go_wp2
  go_loop [8] (fun i => ∃ k : Nat, k ≤ zs.length ∧ i = .int .i64 k ∧ Hid (∀ j, j < k → zs.getD j 0 ≠ v)) (fun i => zs.length - (intOf i).toNat)
  case atStart => exact ⟨0, by omega, rfl, fun j h => absurd h (by omega)⟩
  case round =>
    obtain ⟨k, hk, rfl, hn⟩ := hrel
    by_cases hlt : k < zs.length
    · have hck := hc k hlt
      have hc' := hidd hc
      clear hc
      obtain ⟨x, hx⟩ : ∃ x, zs.getD k 0 = x := ⟨_, rfl⟩
      rw [hx] at hck
      have hx := hidd hx
      by_cases he : v = x
      · have he1 : (v == x) = true := by simpa using he
        have he2 : Hid (v ∈ zs) := by
          show v ∈ zs
          rw [he, ← hx.out, List.getD_eq_getElem?_getD, List.getElem?_eq_getElem hlt]; simp
        clear he
        go_wp2
        go_ret
        exact ⟨⟨k, rfl, by simp [he2.out]⟩, rfl⟩
      · have he1 : (v == x) = false := by simpa using he
        have hn2 : Hid (∀ j, j < k + 1 → zs.getD j 0 ≠ v) := by
          intro j hj
          by_cases hjk : j = k
          · subst hjk; exact fun h => he (by rw [← h, ← hx.out])
          · exact hn.out j (by omega)
        clear he
        go_wp2
        go_round
        case rel => exact ⟨k + 1, by omega, by go_num, hn2⟩
        case measure => simp [intOf]; omega
    · have hk2 : k = zs.length := by omega
      have hne : Hid (¬ v ∈ zs) := by
        intro h
        obtain ⟨j, hj, e⟩ := List.getElem_of_mem h
        exact hn.out j (by omega) (by rw [List.getD_eq_getElem?_getD, List.getElem?_eq_getElem hj]; simpa using e)
      clear hc
      go_wp2
      go_ret
      exact ⟨⟨-1, rfl, by simp [hne.out]⟩, rfl⟩
theorem contains_any (b off cap : Nat) (zs : List Int) (v : Int) (w : World) (hl : zs.length ≤ 1000) (hc : ∀ j, j < zs.length → w.cell? ⟨b, off + j, none⟩ = some (.int .i64 (zs.getD j 0))) :
    Calls Try.prog 78 #[.slice (some ⟨b, off, none⟩) zs.length cap, .int .i64 v] w fun e w' => e = .returned (.bool (decide (v ∈ zs))) ∧ w = w' := by
  have hc' := hidd hc
  clear hc
  go_enter Try.func78, Try.ntmps78
  go_wp2_with fail
  go_at_call 89
  refine (index_any b off cap zs v _ hl hc'.out).mono ?_
  rintro e w' ⟨⟨r, rfl, hr⟩, rfl⟩
  have hr' := hidd hr
  clear hr
  go_wp2
  go_ret
  exact ⟨ret_bool hr'.out, rfl⟩
end Go.Proofs.Ytakmpnmmcjnecaa
