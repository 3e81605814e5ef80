/- keysmithref05.Has: is a letter among a word? Condition: the word has at most 1000 letters. -/
import Derived.Test.YtakmpnmmcjnecaaRefF
namespace Go.Proofs.Ytakmpnmmcjnecaa
open Go.RowKit Calm
def hasC (s : ByteArray) (c : Int) : Bool := (List.range s.size).any fun i => ((s.get! i).toNat : Int) == c
theorem hasC_true {s : ByteArray} {c : Int} {k : Nat} (hk : k < s.size) (he : (((s.get! k).toNat : Int) == c) = true) : hasC s c = true := by
  unfold hasC; rw [List.any_eq_true]; exact ⟨k, List.mem_range.2 hk, he⟩
theorem hasC_false {s : ByteArray} {c : Int} (h : ∀ j, j < s.size → (((s.get! j).toNat : Int) == c) = false) : hasC s c = false := by
  unfold hasC; rw [List.any_eq_false]; intro j hj; rw [h j (List.mem_range.1 hj)]; decide
theorem rhas_any (s : ByteArray) (c : Int) (w : World) (hl : s.size ≤ 1000) :
    Calls Try.prog 15 #[.string s, .int .u8 c] w fun e w' => e = .returned (.bool (hasC s c)) ∧ w = w' := by
  go_enter Try.func15, Try.ntmps15
  go_wp2
  go_loop [5] (fun i => ∃ k : Nat, k ≤ s.size ∧ i = .int .i64 k ∧ Hid (∀ j, j < k → (((s.get! j).toNat : Int) == c) = false)) (fun i => s.size - (intOf i).toNat)
  case atStart => exact ⟨0, by omega, rfl, fun j h => absurd h (by omega)⟩
  case round =>
    obtain ⟨k, hk, rfl, hn⟩ := hrel
    by_cases hlt : k < s.size
    · have e : s.get! k = s[k] := by
        show s.data[k]! = s.data[k]
        exact getElem!_pos _ _ _
      go_wp2
      · go_ret
        rename_i h1 _
        exact ⟨ret_bool (hasC_true hlt (by rw [e]; exact h1)).symm, rfl⟩
      · refine ⟨⟨k + 1, by omega, rfl, ?_⟩, by simp [intOf]; omega⟩
        rename_i h1
        intro j hj
        by_cases hjk : j = k
        · subst hjk; rw [e]; exact h1
        · exact hn.out j (by omega)
    · have hn2 : hasC s c = false := hasC_false fun j hj => hn.out j (by omega)
      have hge : ¬ ((k : Int) < (s.size : Int)) := by omega
      have hn2 := hidd hn2
      go_wp2
      go_ret
      exact ⟨by first | rfl | exact ret_bool hn2.out.symm, rfl⟩
end Go.Proofs.Ytakmpnmmcjnecaa
