/- keysmithref12's run: at. -/
import Derived.Test.YtkjlgapkcdcmgaaLr
set_option linter.unusedVariables false
set_option linter.unusedSimpArgs false
namespace Go.Proofs.Ytkjlgapkcdcmgaa
open Go Go.RowKit SL
attribute [local irreducible] SL.L SL.C SL.D SL.N SL.H SL.QL SL.QW SL.QP

theorem at12_S (xb : Nat) (regs : Int) (vb vo rv bv lv : Value) (r : List Int) (k : Int) (hk : k < r.length) : Ctr Try.prog 82 [.pointer (some ⟨xb, 0, none⟩), .int .i64 k] []
    (fun w => Old w [] xb 0 [.int .i64 regs, vb, vo, rv, bv, lv] ∧ Rd w [] rv r.length (r.map u64)) (is (.int .u64 (rAt r k)) []) := by
  refine Ctr.enter Try.func82 Try.ntmps82 rfl rfl (fun w hr => ?_)
  cases h0 : cm .lss k 0 with
  | true =>
    repeat' (first | refine C.seq ?_ | refine C.region ?_ | refine L.nil ?_ | refine D.seq ?_ | refine L.move (k := ?_) | refine L.assign (k := ?_) | refine L.cm (c := ?_) | refine C.yes (h1 := ?_) | refine C.ret ?_ | refine D.thenRet ?_)
    (refine D.ret (vs := [_]) (RV.tmp rfl RV.nil) ?_; intro w' hw; exact Post.mk (is := []) hw List.nodup_nil rfl ⟨by unfold rAt; rw [if_pos h0]; rfl, rfl⟩)
  | false =>
    have hk0 : 0 ≤ k := by simpa [cm] using h0
    obtain ⟨v, hv⟩ : ∃ v, r[k.toNat]? = some v := ⟨_, List.getElem?_eq_getElem (by omega)⟩
    have o2 := hr.2.2 (by omega)
    have hki : k = (k.toNat : Int) := by omega
    have hkl : k.toNat < r.length := by omega
    repeat' (first | refine C.seq ?_ | refine C.region ?_ | refine L.nil ?_ | refine D.seq ?_ | refine L.move (k := ?_) | refine L.assign (k := ?_) | refine L.cm (c := ?_) | refine L.fieldAddr (c := ?_) | refine L.nilCheck (k := ?_) | refine C.no (h1 := ?_) | refine C.ret ?_ | refine C.skip ?_ | refine L.loadF hr.1 (i := 3) rfl (c := ?_) | refine L.indexR hr.2.1 hkl (hi := hki) (c := ?_) | refine L.loadF o2 (enc_at (enc := u64) hv) (c := ?_))
    (refine D.ret (vs := [_]) (RV.tmp rfl RV.nil) ?_; intro w' hw; exact Post.mk (is := []) hw List.nodup_nil rfl ⟨by unfold rAt; rw [if_neg (by rw [h0]; simp), hv]; rfl, rfl⟩)
end Go.Proofs.Ytkjlgapkcdcmgaa
