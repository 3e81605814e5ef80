
/- Several texts, one behind the other. -/
import Derived.Test.YtbcaelhchmoigaaMG
import Derived.Test.YtbcaelhchmoigaaMD
import Derived.Test.YtbcaelhchmoigaaME
import Derived.Orders
import Derived.Test.YtbcaelhchmoigaaMA
import Derived.Test.YtbcaelhchmoigaaMF
set_option linter.unusedVariables false
set_option linter.unusedSimpArgs false
/- decode.takers (layer 7): a map of what stands behind a byte, and what is found in it. Conditions: none. -/
namespace Go.Proofs.Ytbcaelhchmoigaa
open Go.RowKit Calm MapRun

def pairV (op : Int) : Value := .iface 129 (.int .i64 op)
def movesV (op : Int) (st : Bool) : Value := .iface 131 (.agg #[.int .i64 op, .bool st])
def takersE : Array MapEntry := #[
  ⟨.int .i64 1, pairV 6, 0⟩, ⟨.int .i64 17, pairV 7, 1⟩, ⟨.int .i64 41, pairV 8, 2⟩, ⟨.int .i64 25, pairV 9, 3⟩, ⟨.int .i64 33, pairV 10, 4⟩, ⟨.int .i64 9, pairV 11, 5⟩, ⟨.int .i64 49, pairV 12, 6⟩,
  ⟨.int .i64 57, pairV 13, 7⟩, ⟨.int .i64 133, pairV 14, 8⟩, ⟨.int .i64 139, movesV 3 false, 9⟩, ⟨.int .i64 137, movesV 4 true, 10⟩, ⟨.int .i64 141, movesV 5 false, 11⟩]
def missR : Option (Value × List Nat) → Option (List Nat)
  | some (.tuple ⟨[.nilIface, .bool false]⟩, l) => some l
  | _ => none
def isKey (b : Int) : Bool := pairOp b != 0 || b == 139 || b == 137 || b == 141
end Go.Proofs.Ytbcaelhchmoigaa

/- decode.pair.take, decode.moves.take (layer 7). Conditions: the cursor is one, the bytes are bytes. -/
namespace Go.Proofs.Ytbcaelhchmoigaa
open Go.RowKit Calm

def Ins.V (i : Ins) : Value := .agg #[.int .i64 i.op, .int .i64 i.d, .int .i64 i.s, .int .i64 i.t, .int .i64 i.mb, .int .i64 i.mi, .int .i64 i.ms, .int .i64 i.md, .int .i64 i.imm]
def insC (i : Ins) : Array Value := #[.int .i64 i.op, .int .i64 i.d, .int .i64 i.s, .int .i64 i.t, .int .i64 i.mb, .int .i64 i.mi, .int .i64 i.ms, .int .i64 i.md, .int .i64 i.imm]
def set9 (W : World) (m : Nat) (i : Ins) : World := (((((((((W.setCell ⟨m, 0, none⟩ (.int .i64 i.op)).setCell ⟨m, 1, none⟩ (.int .i64 i.d)).setCell ⟨m, 2, none⟩ (.int .i64 i.s)).setCell ⟨m, 3, none⟩ (.int .i64 i.t)).setCell ⟨m, 4, none⟩ (.int .i64 i.mb)).setCell ⟨m, 5, none⟩ (.int .i64 i.mi)).setCell ⟨m, 6, none⟩ (.int .i64 i.ms)).setCell ⟨m, 7, none⟩ (.int .i64 i.md)).setCell ⟨m, 8, none⟩ (.int .i64 i.imm))
end Go.Proofs.Ytbcaelhchmoigaa

/- decode.moves.take (layer 7). Conditions: the cursor is one, the bytes are bytes. -/
namespace Go.Proofs.Ytbcaelhchmoigaa
open Go.RowKit Calm
attribute [local irreducible] sibD dispD midD lastD
attribute [local irreducible] World.alloc World.drew World.setCell
end Go.Proofs.Ytbcaelhchmoigaa

/- A drawing region in which a row of operations stands free of order: what is left is any permutation of them. A look-up by asking. No program in sight. -/
namespace Go.Proofs.Ytbcaelhchmoigaa.Bag
open Go Calm
variable {P : Program} {ops : Array Oper} {Q : Exit → Act → World → Prop} {md : Region.Mode}

def mark (L : Array Bool) : List Nat → Array Bool
  | [] => L
  | j :: js => mark (L.setIfInBounds j true) js
def others (md : Region.Mode) (ops : Array Oper) (js : List Nat) (L : Array Bool) : Bool :=
  (List.range ops.size).all fun i => L.getD i true || js.contains i || match ops[i]? with
    | some o => js.all fun j => o.after.any fun e => Region.binds md e && e.on == j
    | none => true

def takes (P : Program) (md : Region.Mode) (ops : Array Oper) : List Nat → Array Bool → Act → Option (Array Bool × Act)
  | [], l, a => some (l, a)
  | i :: is, l, a =>
    match ops[i]? with
    | none => none
    | some o =>
      if o.guard.isNone && Region.free md ops l i && (Region.ready md ops l).contains i then
        match calm P (execOp a.eval o) with
        | some (.value v) => takes P md ops is (l.setIfInBounds i true) (a.put o.dst v)
        | _ => none
      else none
end Go.Proofs.Ytbcaelhchmoigaa.Bag

/- decode.groups (layer 7): its inserts stand free of order; a look-up in what it makes. Conditions: none. -/
namespace Go.Proofs.Ytbcaelhchmoigaa
open Go.RowKit Calm MapRun Bag
def gkey (b m : Int) : Value := .agg #[.int .i64 b, .int .i64 m]
def gval (x : Int × Int) : Value := .agg #[.int .i64 x.1, .int .i64 x.2]
def grp (b m : Int) : Int × Int :=
  if b = 129 ∧ m = 0 then (15, 4)
  else if b = 129 ∧ m = 4 then (16, 4)
  else if b = 129 ∧ m = 5 then (17, 4)
  else if b = 129 ∧ m = 7 then (18, 4)
  else if b = 247 ∧ m = 3 then (22, 0)
  else if b = 247 ∧ m = 2 then (23, 0)
  else if b = 193 ∧ m = 4 then (24, 1)
  else if b = 193 ∧ m = 5 then (25, 1)
  else (0, 0)
def gks : List Nat := [3, 6, 9, 12, 15, 18, 21, 24]
def gk : Nat → Int × Int
  | 3 => (129, 0)
  | 6 => (129, 4)
  | 9 => (129, 5)
  | 12 => (129, 7)
  | 15 => (247, 3)
  | 18 => (247, 2)
  | 21 => (193, 4)
  | 24 => (193, 5)
  | _ => (0, 0)
def gent (j : Nat) : Value × Value := (gkey (gk j).1 (gk j).2, gval (grp (gk j).1 (gk j).2))
def gEs (done : List Nat) : Array MapEntry := (done.zipIdx.map fun x => (⟨(gent x.1).1, (gent x.1).2, x.2⟩ : MapEntry)).toArray
def GroupsE (es : Array MapEntry) : Prop := (∀ e ∈ es.toList, ∃ j ∈ gks, e.key = (gent j).1 ∧ e.val = (gent j).2) ∧ (∀ j ∈ gks, ∃ e ∈ es.toList, e.key = (gent j).1)
def gmatch (b m : Int) : Value → Bool
  | .agg ⟨[.int .i64 x, .int .i64 y]⟩ => b == x && m == y
  | _ => false
def gL1 : Array Bool := #[false, true, true, false, true, true, false, true, true, false, true, true, false, true, true, false, true, true, false, true, true, false, true, true, false, false, false]
def gL2 : Array Bool := #[true, true, true, false, true, true, false, true, true, false, true, true, false, true, true, false, true, true, false, true, true, false, true, true, false, false, false]
def gA1 : Act := ⟨#[Value.map none, undef, gkey 129 0, gval (15, 4), gkey 129 4, gval (16, 4), gkey 129 5, gval (17, 4), gkey 129 7, gval (18, 4), gkey 247 3, gval (22, 0), gkey 247 2, gval (23, 0), gkey 193 4, gval (24, 1), gkey 193 5, gval (25, 1), undef], []⟩
def gA2 (r : Nat) : Act := ⟨#[Value.map none, Value.map (some r), gkey 129 0, gval (15, 4), gkey 129 4, gval (16, 4), gkey 129 5, gval (17, 4), gkey 129 7, gval (18, 4), gkey 247 3, gval (22, 0), gkey 247 2, gval (23, 0), gkey 193 4, gval (24, 1), gkey 193 5, gval (25, 1), undef], []⟩
def gA3 (r : Nat) : Act := ⟨#[Value.map (some r), Value.map (some r), gkey 129 0, gval (15, 4), gkey 129 4, gval (16, 4), gkey 129 5, gval (17, 4), gkey 129 7, gval (18, 4), gkey 247 3, gval (22, 0), gkey 247 2, gval (23, 0), gkey 193 4, gval (24, 1), gkey 193 5, gval (25, 1), Value.map (some r)], []⟩
def gL3 : Array Bool := #[true, true, true, true, true, true, true, true, true, true, true, true, true, true, true, true, true, true, true, true, true, true, true, true, true, true, true]
end Go.Proofs.Ytbcaelhchmoigaa

/- What decode.Inst answers: the one instruction whose bytes begin the rest. Plain laws, no program in sight. -/
namespace Go.Proofs.Ytbcaelhchmoigaa

def zeroI : Ins := ⟨0, 0, 0, 0, 0, 0, 0, 0, 0⟩
def winD (l : List Int) : Ins × Cur := anyD (l.take 16) false
def usedD (l : List Int) : Nat := (l.take 16).length - (winD l).2.1.length
def goodD (l : List Int) : Bool := !(winD l).2.2 && (winD l).1.chk && decide ((winD l).1.enc = (l.take 16).take (usedD l))
def rdD (l : List Int) : Ins × Nat × Int := if goodD l then ((winD l).1, usedD l, 0) else (zeroI, 0, 4)
theorem rd_hit (x : Ins) (r : List Int) (h : x.chk = true) (hi : x.ok) : rdD (x.enc ++ r) = (x, x.enc.length, 0) := by
  have hl := (Ins.enc_bytes h).2
  have e1 : (x.enc ++ r).take 16 = x.enc ++ r.take (16 - x.enc.length) := by
    rw [List.take_append, List.take_of_length_le (by omega)]
  have e2 : winD (x.enc ++ r) = (x, r.take (16 - x.enc.length), false) := by
    unfold winD; rw [e1]; exact dec_any x _ h hi.2
  have e3 : usedD (x.enc ++ r) = x.enc.length := by
    unfold usedD; rw [e2, e1, List.length_append]; simp
  have e4 : goodD (x.enc ++ r) = true := by
    unfold goodD; rw [e2, e3, e1, h]; simp
  unfold rdD
  rw [if_pos e4, e2, e3]
theorem num_ok {c : Cur} (h : RestB c) (k : Nat) (hk : k = 1 ∨ k = 4 ∨ k = 8) : -9223372036854775808 ≤ (numD k c).1 ∧ (numD k c).1 ≤ 9223372036854775807 := by
  have hv := (rest_val h k).2
  unfold numD sgnD
  rcases hk with rfl | rfl | rfl
  · rw [half1]; simp only; split <;> omega
  · rw [half4]; simp only; split <;> omega
  · rw [half8]; simp only; split <;> omega
theorem any_ok (l : List Int) (hl : ∀ x ∈ l, Byte x) : ∀ k, (anyD l k).1.ok := by
  have hz : ∀ op d s t mb mi ms : Int, (⟨op, d, s, t, mb, mi, ms, 0, 0⟩ : Ins).ok := by intros; unfold Ins.ok; simp
  have hsib : ∀ r rm c, RestB c → RestB (sibD r rm c).2 := by
    intro r rm c h; unfold sibD; split
    · exact (RestB.nx h).2
    · exact h
  have hdisp : ∀ rm c, RestB c → -9223372036854775808 ≤ (dispD rm c).1 ∧ (dispD rm c).1 ≤ 9223372036854775807 := by
    intro rm c h; unfold dispD; split
    · exact num_ok h 1 (by omega)
    · split
      · exact num_ok h 4 (by omega)
      · simp
  have hmov : ∀ op r rm c, RestB c → (movD op r rm c).1.ok := by
    intro op r rm c h; unfold movD Ins.ok; exact ⟨hdisp _ _ (hsib _ _ _ h), by simp⟩
  have hwide : ∀ r c, RestB c → (wideD r c).1.ok := by
    intro r c h
    have h1 := (RestB.nx h).2
    have h2 := (RestB.nx h1).2
    unfold wideD wideB
    repeat' split
    · unfold pairB; exact hz _ _ _ _ _ _ _
    · exact hmov _ _ _ _ h2
    · exact hmov _ _ _ _ h2
    · unfold storeB; split
      · unfold pairB; exact hz _ _ _ _ _ _ _
      · exact hmov _ _ _ _ h2
    · unfold immB Ins.ok; exact ⟨by simp, num_ok h1 8 (by omega)⟩
    · unfold cmovB; exact hz _ _ _ _ _ _ _
    · unfold grpC
      split
      · exact hz _ _ _ _ _ _ _
      · rename_i hg
        refine ⟨by simp, num_ok h2 _ ?_⟩
        unfold grpOp at hg ⊢
        repeat' split
        all_goals simp_all
  induction l with
  | nil => intro k; exact hwide 0 ([], true) (fun x hx => by cases hx)
  | cons b r ih =>
    intro k
    have hr : RestB (r, k) := fun x hx => hl x (List.mem_cons_of_mem _ hx)
    have h1 := (RestB.nx hr).2
    rw [anyD]
    repeat' split
    · exact hz _ _ _ _ _ _ _
    · exact hz _ _ _ _ _ _ _
    · exact hz _ _ _ _ _ _ _
    · have := ih (fun x hx => hl x (List.mem_cons_of_mem _ hx)) k
      unfold up8; split <;> exact this
    · exact ⟨by simp, num_ok hr 4 (by omega)⟩
    · exact ⟨by simp, num_ok h1 4 (by omega)⟩
    · unfold mulD; exact hz _ _ _ _ _ _ _
    · unfold chainD; exact hz _ _ _ _ _ _ _
    · unfold chainD; exact hz _ _ _ _ _ _ _
    · exact hwide _ _ hr
end Go.Proofs.Ytbcaelhchmoigaa
