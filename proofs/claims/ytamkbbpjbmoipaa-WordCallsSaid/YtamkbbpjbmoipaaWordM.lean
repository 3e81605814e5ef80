/- The law WordCalls: package word answers as the document's references. -/
import Derived.Test.YtamkbbpjbmoipaaWordR
import Derived.Test.YtamkbbpjbmoipaaWordL
namespace Go.Proofs.Ytamkbbpjbmoipaa
open Go.RowKit Wd

attribute [local irreducible] bits IntKind.wrap chooseI maskOf blen addS addC subS subC hi lo quo rem inv odd
set_option maxHeartbeats 6000000 in
set_option maxRecDepth 100000 in
theorem wordCalls_walk (a b c : Int) (carry : Bool) (w : World) (ha : InU a) (hb : InU b) (hc : InU c) :
    Calls Try.prog 8 #[.int .u64 a, .int .u64 b, .int .u64 c, .bool carry] w fun e w' => e = .returned (.bool true) ∧ ∃ q, w' = w.drewN q := by
  go_enter Try.func8, Try.ntmps8
  go_wp2_with (first | (go_at_call 9; refine (lives_any _).mono ?_; rintro e w' ⟨rfl, rfl⟩) | (go_at_call 11; refine (mul_any _ _ _ ha hb).mono ?_; rintro e w' ⟨rfl, rfl⟩) | (go_at_call 10; refine (inverse_any _ _ ha).mono ?_; rintro e w' ⟨rfl, rfl⟩) | (go_at_call 17; refine (sub_any _ _ _ _ ha hb).mono ?_; rintro e w' ⟨rfl, rfl⟩) | (go_at_call 12; refine (add_any _ _ _ _ ha hb).mono ?_; rintro e w' ⟨rfl, rfl⟩) | (go_at_call 18; refine (div_any _ _ _ _ ha hb hc).mono ?_; rintro e w' ⟨rfl, rfl⟩) | (go_at_call 15; refine (mask_any _ _).mono ?_; rintro e w' ⟨rfl, rfl⟩) | (go_at_call 14; refine (choose_any _ _ _ _).mono ?_; rintro e w' ⟨rfl, rfl⟩) | (go_at_call 16; refine (bits_any _ _ ha).mono ?_; rintro e w' ⟨rfl, q, rfl⟩) | (go_at_call 21; refine (rmul_any _ _ _ ha hb).mono ?_; rintro e w' ⟨rfl, rfl⟩) | (go_at_call 23; refine (rinverse_any _ _ ha).mono ?_; rintro e w' ⟨rfl, rfl⟩) | (go_at_call 20; refine (rsub_any _ _ _ _ ha hb).mono ?_; rintro e w' ⟨rfl, rfl⟩) | (go_at_call 19; refine (radd_any _ _ _ _ ha hb).mono ?_; rintro e w' ⟨rfl, rfl⟩) | (go_at_call 22; refine (rdiv_any _ _ _ _ ha hb hc).mono ?_; rintro e w' ⟨rfl, rfl⟩) | (go_at_call 24; refine (rmask_any _ _).mono ?_; rintro e w' ⟨rfl, rfl⟩) | (go_at_call 25; refine (rchoose_any _ _ _ _ ha hb hc).mono ?_; rintro e w' ⟨rfl, rfl⟩) | (go_at_call 26; refine (rbits_any _ _ ha).mono ?_; rintro e w' ⟨rfl, rfl⟩))
  go_ret
  exact ⟨rfl, _, rfl⟩
end Go.Proofs.Ytamkbbpjbmoipaa
