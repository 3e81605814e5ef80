
/- Several texts, one behind the other. -/
import Derived.Test.YtbcaelhchmoigaaMF
import Derived.Laws.BitsAllLaws
import Derived.Test.YtbcaelhchmoigaaTy
import Derived.Test.YtbcaelhchmoigaaSepW
set_option linter.unusedVariables false
set_option linter.unusedSimpArgs false
/- decode's cursor, told in the separation logic's words. Conditions: the bytes are few. -/
namespace Go.Proofs.Ytbcaelhchmoigaa
open Go.RowKit Calm SL

def Suf (s : ByteArray) (c : Cur) : Prop := ∃ n, n ≤ s.size ∧ c.1 = (bytesOf s).drop n
/-- The cursor's block. -/
def cO (s : ByteArray) (c : Cur) : Obj := ob [.string s, .int .i64 ((s.size - c.1.length : Nat) : Int), .bool c.2] 112
theorem Suf.n1 {s : ByteArray} {c : Cur} (h : Suf s c) : Suf s (nx c).2 := by
  obtain ⟨l, k⟩ := c
  obtain ⟨n, hn, rfl⟩ := h
  rcases Nat.lt_or_ge n s.size with hlt | hge
  · rw [drop_nx s n k hlt]; exact ⟨n + 1, hlt, rfl⟩
  · rw [drop_end s n k (by omega)]; exact ⟨n, hn, rfl⟩
theorem Suf.val {s : ByteArray} : ∀ (k : Nat) {c : Cur}, Suf s c → Suf s (valD k c).2
  | 0, _, h => h
  | k + 1, _, h => Suf.val k h.n1
theorem Suf.byte {s : ByteArray} {c : Cur} (h : Suf s c) : Byte (nx c).1 := by
  obtain ⟨l, k⟩ := c
  obtain ⟨n, hn, rfl⟩ := h
  have hr : RestB ((bytesOf s).drop n, k) := by
    intro x hx
    have hx : x ∈ bytesOf s := List.mem_of_mem_drop hx
    unfold bytesOf at hx
    obtain ⟨y, _, rfl⟩ := List.mem_map.1 hx
    have := y.toNat_lt
    show 0 ≤ (y.toNat : Int) ∧ (y.toNat : Int) ≤ 255
    omega
  exact (RestB.nx hr).1
theorem cm_no {a b : Int} (h : a ≠ b) : cm .eql a b = false := by show (a == b) = false; rwa [beq_eq_false_iff_ne]
theorem cm_yes {a b : Int} (h : a = b) : cm .eql a b = true := by show (a == b) = true; rwa [beq_iff_eq]
theorem spec_below {f : Nat} {args : List Value} {v : Value} (h : ∀ w, Calls Try.prog f args.toArray w fun e w' => e = .returned v ∧ Below w.heap.size w w') : Ctr Try.prog f args [] tt (is v []) := by
  intro w _ _ _
  refine (h w).mono ?_
  rintro e w' ⟨rfl, hb⟩
  exact ⟨v, [], rfl, ⟨rfl, rfl⟩, Keeps.of_below hb _, by simp [keys], by simp, by simp⟩
end Go.Proofs.Ytbcaelhchmoigaa

/- decode.cursor.place (layer 7). Conditions: the cursor is one, the bytes are bytes. -/
namespace Go.Proofs.Ytbcaelhchmoigaa
open Go.RowKit Calm SL
attribute [local irreducible] SL.L SL.C SL.D SL.N SL.H SL.QL SL.QW

def memC (mb mi ms md : Int) : Array Value := #[.int .i64 mb, .int .i64 mi, .int .i64 ms, .int .i64 md]
attribute [local irreducible] numD midD lastD idxD World.setCell World.drew
def placeV (r rm : Int) (c : Cur) : Value := .agg (memC (sibD r rm c).1.1 (sibD r rm c).1.2.1 (sibD r rm c).1.2.2 (dispD rm (sibD r rm c).2).1)
end Go.Proofs.Ytbcaelhchmoigaa
