/- What the law DecodeCalls calls: both Inst at any place. Conditions: the code is short. -/
import Derived.Test.YtakmpnmmcjnecaaRcH
set_option linter.unusedVariables false
namespace Go.Proofs.Ytakmpnmmcjnecaa
open Go.RowKit Calm SL
attribute [local irreducible] SL.L SL.C SL.D SL.N SL.H

set_option maxRecDepth 100000 in
set_option maxHeartbeats 2000000 in
theorem rinst7_arg (code : ByteArray) (i : Int) (h : i < 0 ∨ (code.size : Int) < i) : Ctr Try.prog 29 [.string code, .int .i64 i] [] tt (is (.tuple #[zeroI.V, .int .i64 0, .int .i64 2]) []) := by
  by_cases h0 : i < 0
  · have c1 := cm_lo h0
    clear h h0
    refine Ctr.enter Try.func29 Try.ntmps29 rfl rfl (fun w _ => ?_)
    repeat (first | refine C.seq ?_ | refine C.region ?_ | refine L.nil ?_ | refine D.seq ?_ | refine L.move (k := ?_) | refine L.assign (k := ?_) | refine L.cm (c := ?_) | refine L.storeV 0 (c := ?_) | refine L.build (c := ?_) | refine L.alloc (c := fun _ => ?_) | refine C.yes (h1 := ?_) | refine L.pickT (k := ?_) | refine L.pass (k := ?_) | refine C.ret ?_ | refine D.thenRet ?_)
    refine D.ret (vs := [zeroI.V, .int .i64 0, .int .i64 2]) ?_ ?_
    · exact RV.cellA 0 rfl rfl rfl rfl rfl (RV.tmp rfl (RV.tmp rfl RV.nil))
    · intro w' hw
      exact Post.mk (is := []) hw (by decide) rfl ⟨rfl, rfl⟩
  · have c1 := cm_lo' (show 0 ≤ i by omega)
    have c2 := cm_gt (show (code.size : Int) < i by omega)
    clear h h0
    refine Ctr.enter Try.func29 Try.ntmps29 rfl rfl (fun w _ => ?_)
    repeat (first | refine C.seq ?_ | refine C.region ?_ | refine L.nil ?_ | refine D.seq ?_ | refine L.move (k := ?_) | refine L.assign (k := ?_) | refine L.cm (c := ?_) | refine L.storeV 0 (c := ?_) | refine L.build (c := ?_) | refine L.alloc (c := fun _ => ?_) | refine C.yes (h1 := ?_) | refine L.pickF (k := ?_) | refine L.want (k := ?_) | refine L.lenS (c := ?_) | refine C.ret ?_ | refine D.thenRet ?_)
    refine D.ret (vs := [zeroI.V, .int .i64 0, .int .i64 2]) ?_ ?_
    · exact RV.cellA 0 rfl rfl rfl rfl rfl (RV.tmp rfl (RV.tmp rfl RV.nil))
    · intro w' hw
      exact Post.mk (is := []) hw (by decide) rfl ⟨rfl, rfl⟩
set_option maxRecDepth 100000 in
set_option maxHeartbeats 2000000 in
theorem rinst7_more (code : ByteArray) : Ctr Try.prog 29 [.string code, .int .i64 code.size] [] tt (is (.tuple #[zeroI.V, .int .i64 0, .int .i64 8]) []) := by
  have c1 := cm_lo' (show (0 : Int) ≤ code.size by omega)
  have c2 := cm_gt' (show (code.size : Int) ≤ code.size by omega)
  have c3 := cm_yes (show (code.size : Int) = code.size from rfl)
  refine Ctr.enter Try.func29 Try.ntmps29 rfl rfl (fun w _ => ?_)
  repeat (first | refine C.seq ?_ | refine C.region ?_ | refine L.nil ?_ | refine D.seq ?_ | refine L.move (k := ?_) | refine L.assign (k := ?_) | refine L.cm (c := ?_) | refine L.storeV 0 (c := ?_) | refine L.build (c := ?_) | refine L.alloc (c := fun _ => ?_) | refine C.yes (h1 := ?_) | refine C.no (h1 := ?_) | refine L.pickF (k := ?_) | refine L.want (k := ?_) | refine L.lenS (c := ?_) | refine C.ret ?_ | refine D.thenRet ?_ | refine C.skip ?_)
  refine D.ret (vs := [zeroI.V, .int .i64 0, .int .i64 8]) ?_ ?_
  · exact RV.cellA 0 rfl rfl rfl rfl rfl (RV.tmp rfl (RV.tmp rfl RV.nil))
  · intro w' hw
    exact Post.mk (is := []) hw (by decide) rfl ⟨rfl, rfl⟩
/-- What both Inst answer at any place. -/
def iAt (code : ByteArray) (i : Int) : Ins × Nat × Int :=
  if i < 0 ∨ (code.size : Int) < i then (zeroI, 0, 2) else if i = code.size then (zeroI, 0, 8) else rdD ((bytesOf code).drop i.toNat)
theorem iAt_of {code : ByteArray} (g : Nat) (i : Int) (hl : code.size ≤ 1000000)
    (h1 : (i < 0 ∨ (code.size : Int) < i) → Ctr Try.prog g [.string code, .int .i64 i] [] tt (is (.tuple #[zeroI.V, .int .i64 0, .int .i64 2]) []))
    (h2 : Ctr Try.prog g [.string code, .int .i64 code.size] [] tt (is (.tuple #[zeroI.V, .int .i64 0, .int .i64 8]) []))
    (h3 : ∀ a : Nat, a < code.size → Ctr Try.prog g [.string code, .int .i64 a] [] tt (is (.tuple #[(rdD ((bytesOf code).drop a)).1.V, .int .i64 (rdD ((bytesOf code).drop a)).2.1, .int .i64 (rdD ((bytesOf code).drop a)).2.2]) [])) :
    Ctr Try.prog g [.string code, .int .i64 i] [] tt (is (.tuple #[(iAt code i).1.V, .int .i64 (iAt code i).2.1, .int .i64 (iAt code i).2.2]) []) := by
  unfold iAt
  by_cases c1 : i < 0 ∨ (code.size : Int) < i
  · rw [if_pos c1]; exact h1 c1
  · rw [if_neg c1]
    by_cases c2 : i = code.size
    · rw [if_pos c2, c2]; exact h2
    · rw [if_neg c2]
      obtain ⟨a, rfl⟩ := Int.eq_ofNat_of_zero_le (show 0 ≤ i by omega)
      exact h3 a (by omega)
theorem dinstA_S (code : ByteArray) (i : Int) (hl : code.size ≤ 1000000) : Ctr Try.prog 25 [.string code, .int .i64 i] [] tt (is (.tuple #[(iAt code i).1.V, .int .i64 (iAt code i).2.1, .int .i64 (iAt code i).2.2]) []) :=
  iAt_of _ i hl (dinst_arg code i) (dinst_more code) (fun a h => dinst_S code a h hl)
theorem rinst7A_S (code : ByteArray) (i : Int) (hl : code.size ≤ 1000000) : Ctr Try.prog 29 [.string code, .int .i64 i] [] tt (is (.tuple #[(iAt code i).1.V, .int .i64 (iAt code i).2.1, .int .i64 (iAt code i).2.2]) []) :=
  iAt_of _ i hl (rinst7_arg code i) (rinst7_more code) (fun a h => rinst7_S code a h hl)
end Go.Proofs.Ytakmpnmmcjnecaa
