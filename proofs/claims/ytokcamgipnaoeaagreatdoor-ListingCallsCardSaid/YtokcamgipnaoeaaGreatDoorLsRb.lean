/- Listing, the document's answer: register, find, number: what they answer. No condition. -/
import Derived.Test.YtokcamgipnaoeaaGreatDoorLsRa
set_option linter.unusedVariables false
set_option linter.unusedSimpArgs false
namespace Go.Proofs.YtokcamgipnaoeaaGreatDoor.Ls
open Go Go.RowKit SL Go.Shelf
attribute [local irreducible] SL.L SL.C SL.D SL.N SL.H SL.QL SL.QW SL.QP

set_option maxRecDepth 100000 in
theorem rreg_S (l : List UInt8) : Ctr Tryz.prog 56 [tx l] [] tt (is (.int .i64 (regOf l)) []) := by
  refine Ctr.enter Tryz.func56 Tryz.ntmps56 rfl rfl (fun w _ => ?_)
  repeat (first | refine C.seq ?_ | refine C.region ?_ | refine L.nil ?_ | refine D.seq ?_ | refine L.assign (k := ?_) | refine C.block ?_)
  refine C.loop (α := Nat) (fun r => r ≤ 16 ∧ regOf l = regF l (16 - r) r) (fun r => [(0, tx l), (3, .int .i64 (r : Int))]) (fun _ => []) (fun r => 16 - r) 0
    (fun a w hs => hs.lessE rfl (lk_cons rfl (lk_cons rfl (fun _ _ h => lk_nil h)))) ⟨by omega, rfl⟩ ?_
  rintro r ⟨hr, hR⟩
  dsimp only
  rcases Nat.lt_or_ge r 16 with h | h
  · have c1 : cm .lss (r : Int) 16 = true := cm_lo (by omega)
    have d1 : ar .add .i64 (r : Int) 1 = ((r + 1 : Nat) : Int) := i64_add (b := 1) (by omega)
    have hN := rname_S (r : Int)
    have hs := seq_tx (regT (r : Int)) l
    obtain ⟨f, hf⟩ : ∃ f, 16 - r = f + 1 := ⟨15 - r, by omega⟩
    have hf2 : 16 - (r + 1) = f := by omega
    rw [hf] at hR
    by_cases he : regT (r : Int) = l
    · rw [decide_eq_true he] at hs
      have hR2 : regOf l = (r : Int) := by rw [hR]; unfold regF; rw [if_pos he]
      rw [hR2]
      repeat (first | refine C.seq ?_ | refine C.region ?_ | refine L.nil ?_ | refine D.seq ?_ | refine L.move (k := ?_) | refine L.assign (k := ?_) | refine L.cm (c := ?_) | refine C.yes (h1 := ?_) | refine L.strEq (c := ?_) | refine C.block ?_ | refine C.ret ?_ | refine D.thenRet ?_ | refine D.blkRet ?_ | refine C.skip ?_ | refine L.callQ (hN) (k := ?_))
      (refine D.ret (vs := [_]) (RV.tmp rfl RV.nil) ?_; intro w' hw; exact Post.mk (is := []) hw List.nodup_nil rfl ⟨rfl, rfl⟩)
    · rw [decide_eq_false he] at hs
      have hR2 : regOf l = regF l f (r + 1) := by rw [hR]; conv => lhs; unfold regF
                                                  rw [if_neg he]
      repeat (first | refine C.seq ?_ | refine C.region ?_ | refine L.nil ?_ | refine D.seq ?_ | refine L.move (k := ?_) | refine L.assign (k := ?_) | refine L.cm (c := ?_) | refine L.ar (c := ?_) | refine C.yes (h1 := ?_) | refine C.no (h1 := ?_) | refine L.strEq (c := ?_) | refine C.block ?_ | refine D.blkNormal ?_ | refine C.skip ?_ | refine L.callQ (hN) (k := ?_))
      exact D.then_ fun a1 w1 hs => ⟨r + 1, ⟨by omega, by rw [hf2]; exact hR2⟩, by omega, hs.lessE rfl (lk_cons rfl (lk_cons rfl (fun _ _ h => lk_nil h)))⟩
  · obtain rfl : r = 16 := by omega
    have c1 : cm .lss ((16 : Nat) : Int) 16 = false := rfl
    have hR2 : regOf l = -1 := hR
    rw [hR2]
    repeat (first | refine C.seq ?_ | refine C.region ?_ | refine L.nil ?_ | refine D.seq ?_ | refine L.move (k := ?_) | refine L.assign (k := ?_) | refine L.cm (c := ?_) | refine C.no (h1 := ?_) | refine C.ret ?_ | refine C.exit ?_ | refine D.thenExit ?_ | refine D.blkExit ?_ | refine D.seqR (h := ?_))
    (refine D.ret (vs := [_]) (RV.tmp rfl RV.nil) ?_; intro w' hw; exact Post.mk (is := []) hw List.nodup_nil rfl ⟨rfl, rfl⟩)
/-- Where a byte first is, from a place on. -/
def findF (l : List UInt8) (c : UInt8) : Nat → Nat → Int
  | 0, _ => -1
  | f + 1, i => if l[i]? = some c then (i : Int) else findF l c f (i + 1)
def find (l : List UInt8) (c : UInt8) : Int := findF l c l.length 0
theorem findF_range (l : List UInt8) (c : UInt8) : ∀ f i : Nat, findF l c f i = -1 ∨ ∃ k : Nat, findF l c f i = (k : Int) ∧ i ≤ k ∧ k < i + f ∧ l[k]? = some c ∧ ∀ j, i ≤ j → j < k → l[j]? ≠ some c
  | 0, _ => .inl rfl
  | f + 1, i => by
    unfold findF
    split
    · rename_i h; exact .inr ⟨i, rfl, Nat.le_refl _, by omega, h, fun j h1 h2 => by omega⟩
    · rename_i h
      rcases findF_range l c f (i + 1) with h1 | ⟨k, h1, h2, h3, h4, h5⟩
      · exact .inl h1
      · refine .inr ⟨k, h1, by omega, by omega, h4, fun j h6 h7 => ?_⟩
        rcases Nat.lt_or_ge i j with h8 | h8
        · exact h5 j (by omega) h7
        · obtain rfl : j = i := by omega
          exact h
theorem find_none {l : List UInt8} {c : UInt8} (h : c ∉ l) : find l c = -1 := by
  unfold find
  rcases findF_range l c l.length 0 with h1 | ⟨k, _, _, _, h4, _⟩
  · exact h1
  · exact absurd (List.mem_of_getElem? h4) h
theorem findF_hit (l : List UInt8) (c : UInt8) (k : Nat) (hk : l[k]? = some c) (hn : ∀ j, j < k → l[j]? ≠ some c) : ∀ f i : Nat, i ≤ k → k < i + f → findF l c f i = (k : Int)
  | 0, i, h1, h2 => by omega
  | f + 1, i, h1, h2 => by
    unfold findF
    rcases Nat.lt_or_ge i k with h3 | h3
    · rw [if_neg (hn i h3)]; exact findF_hit l c k hk hn f (i + 1) (by omega) (by omega)
    · obtain rfl : i = k := by omega
      rw [if_pos hk]
theorem find_app (a b : List UInt8) (c : UInt8) (h : c ∉ a) : find (a ++ c :: b) c = (a.length : Int) := by
  refine findF_hit _ _ _ (by simp) (fun j hj e => ?_) _ _ (Nat.zero_le _) (by simp)
  rw [List.getElem?_append_left hj] at e
  exact h (List.mem_of_getElem? e)
set_option maxRecDepth 100000 in
theorem find_S (l : List UInt8) (c : UInt8) (hl : l.length ≤ 1000000) : Ctr Tryz.prog 33 [tx l, .int .u8 c.toNat] [] tt (is (.int .i64 (find l c)) []) := by
  refine Ctr.enter Tryz.func33 Tryz.ntmps33 rfl rfl (fun w _ => ?_)
  obtain ⟨R, hR⟩ : ∃ R, R = find l c := ⟨_, rfl⟩
  rw [← hR]
  repeat (first | refine C.seq ?_ | refine C.region ?_ | refine L.nil ?_ | refine D.seq ?_ | refine L.assign (k := ?_) | refine C.block ?_)
  refine C.loop (α := Nat) (fun i => i ≤ l.length ∧ R = findF l c (l.length - i) i) (fun i => [(0, tx l), (1, .int .u8 c.toNat), (5, .int .i64 (i : Int))]) (fun _ => []) (fun i => l.length - i) 0
    (fun a w hs => hs.lessE rfl (lk_cons rfl (lk_cons rfl (lk_cons rfl (fun _ _ h => lk_nil h))))) ⟨Nat.zero_le _, hR⟩ ?_
  rintro i ⟨hi, hF⟩
  dsimp only
  rcases Nat.lt_or_ge i l.length with h | h
  · have c1 : cm .lss (i : Int) (l.length : Int) = true := cm_lo (by omega)
    have d1 : ar .add .i64 (i : Int) 1 = ((i + 1 : Nat) : Int) := i64_add (b := 1) (by omega)
    obtain ⟨x, hx⟩ : ∃ x, l[i]? = some x := ⟨_, List.getElem?_eq_getElem h⟩
    obtain ⟨f, hf⟩ : ∃ f, l.length - i = f + 1 := ⟨l.length - i - 1, by omega⟩
    have hf2 : l.length - (i + 1) = f := by omega
    rw [hf] at hF
    unfold findF at hF
    by_cases he : x = c
    · have c2 : cm .eql (x.toNat : Int) (c.toNat : Int) = true := by rw [he]; exact cm_yes rfl
      rw [if_pos (by rw [hx, he])] at hF
      rw [hF]
      repeat (first | refine L.txLen (c := ?_) | refine C.seq ?_ | refine C.region ?_ | refine L.nil ?_ | refine D.seq ?_ | refine L.move (k := ?_) | refine L.assign (k := ?_) | refine L.cm (c := ?_) | refine C.yes (h1 := ?_) | refine C.block ?_ | refine C.ret ?_ | refine D.thenRet ?_ | refine D.blkRet ?_ | refine C.skip ?_ | refine L.txAt (k := i) (a := l) rfl hx (c := ?_))
      (refine D.ret (vs := [_]) (RV.tmp rfl RV.nil) ?_; intro w' hw; exact Post.mk (is := []) hw List.nodup_nil rfl ⟨rfl, rfl⟩)
    · have c2 : cm .eql (x.toNat : Int) (c.toNat : Int) = false := cm_no (fun e => he (UInt8.toNat_inj.1 (by omega)))
      rw [if_neg (by rw [hx]; exact fun e => he (Option.some.inj e))] at hF
      repeat (first | refine L.txLen (c := ?_) | refine C.seq ?_ | refine C.region ?_ | refine L.nil ?_ | refine D.seq ?_ | refine L.move (k := ?_) | refine L.assign (k := ?_) | refine L.cm (c := ?_) | refine L.ar (c := ?_) | refine C.yes (h1 := ?_) | refine C.no (h1 := ?_) | refine C.block ?_ | refine D.blkNormal ?_ | refine C.skip ?_ | refine L.txAt (k := i) (a := l) rfl hx (c := ?_))
      exact D.then_ fun a1 w1 hs => ⟨i + 1, ⟨by omega, by rw [hf2]; exact hF⟩, by omega, hs.lessE rfl (lk_cons rfl (lk_cons rfl (lk_cons rfl (fun _ _ h => lk_nil h))))⟩
  · have c1 : cm .lss (i : Int) (l.length : Int) = false := cm_lo' (by omega)
    have hf : l.length - i = 0 := by omega
    rw [hf] at hF
    have hF2 : R = -1 := hF
    rw [hF2]
    repeat (first | refine L.txLen (c := ?_) | refine C.seq ?_ | refine C.region ?_ | refine L.nil ?_ | refine D.seq ?_ | refine L.move (k := ?_) | refine L.assign (k := ?_) | refine L.cm (c := ?_) | refine C.no (h1 := ?_) | refine C.ret ?_ | refine C.exit ?_ | refine D.thenExit ?_ | refine D.blkExit ?_ | refine D.seqR (h := ?_))
    (refine D.ret (vs := [_]) (RV.tmp rfl RV.nil) ?_; intro w' hw; exact Post.mk (is := []) hw List.nodup_nil rfl ⟨rfl, rfl⟩)
/-- What a row of digits tells; none: a byte is no digit. -/
def numV : List UInt8 → Nat → Option Nat
  | [], v => some v
  | c :: r, v => if 48 ≤ c.toNat ∧ c.toNat ≤ 57 then numV r (10 * v + (c.toNat - 48)) else none
def sgn (s : List UInt8) : Bool := s.head? == some 45
def body (s : List UInt8) : List UInt8 := if s.head? = some 45 ∨ s.head? = some 43 then s.drop 1 else s
def numE (b : Bool) (v : Nat) : Int := if b then IntKind.i64.wrap (IntKind.u64.wrap (-(v : Int))) else IntKind.i64.wrap (v : Int)
/-- What number reads. -/
def numR (s : List UInt8) : Int × Bool := if body s = [] ∨ 19 < (body s).length then (0, false) else match numV (body s) 0 with
  | none => (0, false)
  | some v => (numE (sgn s) v, true)
set_option maxRecDepth 100000 in
set_option maxHeartbeats 8000000 in
theorem number_R (s : List UInt8) (hs : s.length ≤ 1000000) : Ctr Tryz.prog 57 [tx s] [] tt (two (.int .i64 (numR s).1) (.bool (numR s).2)) := by
  obtain ⟨R, hR⟩ : ∃ R, R = numR s := ⟨_, rfl⟩
  rw [← hR]
  refine Ctr.enter Tryz.func57 Tryz.ntmps57 rfl rfl (fun w _ => ?_)
  refine C.seq ?_
  repeat (first | refine C.region ?_ | refine L.nil ?_ | refine D.seq ?_ | refine L.assign (k := ?_))
  refine C.seq ?_
  refine C.joinK (fun _ : Unit => True) (fun _ => [(0, tx s), (4, .bool (sgn s))]) (fun _ => []) ?_ ?_
  · have hne := sne_tx s []
    cases s with
    | nil =>
      rw [decide_eq_true rfl] at hne
      repeat (first | refine C.region ?_ | refine L.nil ?_ | refine L.move (k := ?_) | refine L.assign (k := ?_) | refine L.pickF (k := ?_) | refine L.pass (k := ?_) | refine L.strNe (c := ?_))
      exact D.then_ fun a1 w1 hs => ⟨(), trivial, hs.lessE rfl (lk_cons rfl (lk_cons rfl (fun _ _ h => lk_nil h)))⟩
    | cons c r =>
      rw [decide_eq_false (by simp)] at hne
      have hsg : sgn (c :: r) = decide (c.toNat = 45) := by
        unfold sgn
        rw [Bool.eq_iff_iff]
        simp only [List.head?_cons, beq_iff_eq, Option.some.injEq, decide_eq_true_eq]
        exact ⟨fun h => by rw [h]; rfl, fun h => UInt8.toNat_inj.1 (by rw [h]; rfl)⟩
      rw [hsg]
      by_cases h : c.toNat = 45
      · have c1 : cm .eql (c.toNat : Int) 45 = true := cm_yes (by omega)
        rw [decide_eq_true h]
        repeat (first | refine C.region ?_ | refine L.nil ?_ | refine L.move (k := ?_) | refine L.assign (k := ?_) | refine L.cm (c := ?_) | refine L.pickT (k := ?_) | refine L.want (k := ?_) | refine L.strNe (c := ?_) | refine L.txAt (k := 0) (a := c :: r) (v := c) rfl rfl (c := ?_))
        exact D.then_ fun a1 w1 hs => ⟨(), trivial, hs.lessE rfl (lk_cons rfl (lk_cons rfl (fun _ _ h => lk_nil h)))⟩
      · have c1 : cm .eql (c.toNat : Int) 45 = false := cm_no (by omega)
        rw [decide_eq_false h]
        repeat (first | refine C.region ?_ | refine L.nil ?_ | refine L.move (k := ?_) | refine L.assign (k := ?_) | refine L.cm (c := ?_) | refine L.pickT (k := ?_) | refine L.want (k := ?_) | refine L.strNe (c := ?_) | refine L.txAt (k := 0) (a := c :: r) (v := c) rfl rfl (c := ?_))
        exact D.then_ fun a1 w1 hs => ⟨(), trivial, hs.lessE rfl (lk_cons rfl (lk_cons rfl (fun _ _ h => lk_nil h)))⟩
  rintro _ _
  refine C.seq ?_
  refine C.joinK (fun _ : Unit => True) (fun _ => [(0, tx (body s)), (4, .bool (sgn s))]) (fun _ => []) ?_ ?_
  · have hne := sne_tx s []
    cases s with
    | nil =>
      rw [decide_eq_true rfl] at hne
      repeat (first | refine C.seq ?_ | refine C.region ?_ | refine L.nil ?_ | refine D.seq ?_ | refine L.move (k := ?_) | refine C.no (h1 := ?_) | refine L.pickF (k := ?_) | refine L.pass (k := ?_) | refine L.strNe (c := ?_) | refine C.skip ?_ | refine L.passU (k := ?_))
      exact D.then_ fun a1 w1 hs => ⟨(), trivial, hs.lessE rfl (lk_cons rfl (lk_cons rfl (fun _ _ h => lk_nil h)))⟩
    | cons c r =>
      rw [decide_eq_false (by simp)] at hne
      have h1r : 1 ≤ (c :: r).length := by simp
      have h2r : ((c :: r).drop 1).take ((c :: r).length - 1) = r := by simp
      have heq : ∀ k : UInt8, (c = k) ↔ (c.toNat = k.toNat) := fun k => ⟨fun h => by rw [h], fun h => UInt8.toNat_inj.1 h⟩
      by_cases h : c.toNat = 45
      · have c1 : cm .eql (c.toNat : Int) 45 = true := cm_yes (by omega)
        have hb : body (c :: r) = r := by unfold body; rw [if_pos (.inl (by rw [(heq 45).2 h]; rfl))]; rfl
        rw [hb]
        repeat (first | refine C.seq ?_ | refine C.region ?_ | refine L.nil ?_ | refine D.seq ?_ | refine L.move (k := ?_) | refine L.assign (k := ?_) | refine L.cm (c := ?_) | refine C.yes (h1 := ?_) | refine L.pickT (k := ?_) | refine L.want (k := ?_) | refine L.pass (k := ?_) | refine L.strNe (c := ?_) | refine L.txAt (k := 0) (a := c :: r) (v := c) rfl rfl (c := ?_) | refine L.txCut (a := c :: r) (lo := 1) (hi := (c :: r).length) (r := r) h1r (Nat.le_refl _) h2r (c := ?_))
        exact D.then_ fun a1 w1 hs => ⟨(), trivial, hs.lessE rfl (lk_cons rfl (lk_cons rfl (fun _ _ h => lk_nil h)))⟩
      · have c1 : cm .eql (c.toNat : Int) 45 = false := cm_no (by omega)
        by_cases h2 : c.toNat = 43
        · have c2 : cm .eql (c.toNat : Int) 43 = true := cm_yes (by omega)
          have hb : body (c :: r) = r := by unfold body; rw [if_pos (.inr (by rw [(heq 43).2 h2]; rfl))]; rfl
          rw [hb]
          repeat (first | refine C.seq ?_ | refine C.region ?_ | refine L.nil ?_ | refine D.seq ?_ | refine L.move (k := ?_) | refine L.assign (k := ?_) | refine L.cm (c := ?_) | refine C.yes (h1 := ?_) | refine L.pickT (k := ?_) | refine L.pickF (k := ?_) | refine L.want (k := ?_) | refine L.strNe (c := ?_) | refine L.txAt (k := 0) (a := c :: r) (v := c) rfl rfl (c := ?_) | refine L.txCut (a := c :: r) (lo := 1) (hi := (c :: r).length) (r := r) h1r (Nat.le_refl _) h2r (c := ?_))
          exact D.then_ fun a1 w1 hs => ⟨(), trivial, hs.lessE rfl (lk_cons rfl (lk_cons rfl (fun _ _ h => lk_nil h)))⟩
        · have c2 : cm .eql (c.toNat : Int) 43 = false := cm_no (by omega)
          have hb : body (c :: r) = c :: r := by
            unfold body
            rw [if_neg (fun e => e.elim (fun e => h ((heq 45).1 (Option.some.inj e))) (fun e => h2 ((heq 43).1 (Option.some.inj e))))]
          rw [hb]
          repeat (first | refine C.seq ?_ | refine C.region ?_ | refine L.nil ?_ | refine D.seq ?_ | refine L.move (k := ?_) | refine L.cm (c := ?_) | refine C.no (h1 := ?_) | refine L.pickT (k := ?_) | refine L.pickF (k := ?_) | refine L.want (k := ?_) | refine L.strNe (c := ?_) | refine C.skip ?_ | refine L.txAt (k := 0) (a := c :: r) (v := c) rfl rfl (c := ?_))
          exact D.then_ fun a1 w1 hs => ⟨(), trivial, hs.lessE rfl (lk_cons rfl (lk_cons rfl (fun _ _ h => lk_nil h)))⟩
  rintro _ _
  have hbl : (body s).length ≤ 1000000 := by unfold body; split <;> (try rw [List.length_drop]) <;> omega
  unfold numR at hR
  generalize sgn s = b at *
  generalize body s = t at *
  have heq := seq_tx t []
  by_cases h0 : t = []
  · rw [if_pos (.inl h0)] at hR
    rw [decide_eq_true h0] at heq
    rw [hR]
    repeat (first | refine L.txLen (c := ?_) | refine C.seq ?_ | refine C.region ?_ | refine L.nil ?_ | refine D.seq ?_ | refine L.move (k := ?_) | refine L.assign (k := ?_) | refine C.yes (h1 := ?_) | refine L.pickT (k := ?_) | refine L.pass (k := ?_) | refine L.strEq (c := ?_) | refine C.ret ?_ | refine D.thenRet ?_)
    (refine D.ret (vs := [_, _]) (RV.tmp rfl (RV.tmp rfl RV.nil)) ?_; intro w' hw; exact Post.mk (is := []) hw List.nodup_nil rfl ⟨rfl, rfl⟩)
  rw [decide_eq_false h0] at heq
  by_cases h19 : 19 < t.length
  · rw [if_pos (.inr h19)] at hR
    have c1 : cm .gtr (t.length : Int) 19 = true := cm_gt (by omega)
    rw [hR]
    repeat (first | refine L.txLen (c := ?_) | refine C.seq ?_ | refine C.region ?_ | refine L.nil ?_ | refine D.seq ?_ | refine L.move (k := ?_) | refine L.assign (k := ?_) | refine L.cm (c := ?_) | refine C.yes (h1 := ?_) | refine L.pickF (k := ?_) | refine L.want (k := ?_) | refine L.strEq (c := ?_) | refine C.ret ?_ | refine D.thenRet ?_)
    (refine D.ret (vs := [_, _]) (RV.tmp rfl (RV.tmp rfl RV.nil)) ?_; intro w' hw; exact Post.mk (is := []) hw List.nodup_nil rfl ⟨rfl, rfl⟩)
  have c1 : cm .gtr (t.length : Int) 19 = false := cm_gt' (by omega)
  rw [if_neg (fun h => h.elim h0 h19)] at hR
  repeat (first | refine L.txLen (c := ?_) | refine C.seq ?_ | refine C.region ?_ | refine L.nil ?_ | refine D.seq ?_ | refine L.move (k := ?_) | refine L.assign (k := ?_) | refine L.cm (c := ?_) | refine C.no (h1 := ?_) | refine L.pickF (k := ?_) | refine L.want (k := ?_) | refine L.strEq (c := ?_) | refine C.block ?_ | refine C.skip ?_)
  refine C.loop (α := Nat × Nat) (fun g => g.1 ≤ t.length ∧ g.2 < 10 ^ g.1 ∧ numV t 0 = numV (t.drop g.1) g.2) (fun g => [(0, tx t), (4, .bool b), (5, .int .u64 (g.2 : Int)), (6, .int .i64 (g.1 : Int))]) (fun _ => []) (fun g => t.length - g.1) (0, 0)
    (fun a w hs => hs.lessE rfl (lk_cons rfl (lk_cons rfl (lk_cons rfl (lk_cons rfl (fun _ _ h => lk_nil h)))))) ⟨Nat.zero_le _, by decide, by rw [List.drop_zero]⟩ ?_
  rintro ⟨i, v⟩ ⟨hi, hv, hV⟩
  simp only at hi hv hV
  dsimp only
  rcases Nat.lt_or_ge i t.length with h | h
  · have c2 : cm .lss (i : Int) (t.length : Int) = true := cm_lo (by omega)
    have d1 : ar .add .i64 (i : Int) 1 = ((i + 1 : Nat) : Int) := i64_add (b := 1) (by omega)
    obtain ⟨x, hx⟩ : ∃ x, t[i]? = some x := ⟨_, List.getElem?_eq_getElem h⟩
    have hdr : t.drop i = x :: t.drop (i + 1) := by
      obtain ⟨h', e⟩ := List.getElem?_eq_some_iff.1 hx
      rw [← e]; exact List.drop_eq_getElem_cons h'
    rw [hdr] at hV
    have hp : 10 ^ (i + 1) ≤ 10 ^ 19 := Nat.pow_le_pow_right (by decide) (by omega)
    have hp19 : (10 : Nat) ^ 19 = 10000000000000000000 := by decide
    have hps : 10 ^ (i + 1) = 10 ^ i * 10 := Nat.pow_succ 10 i
    have hx256 := UInt8.toNat_lt x
    have hVs : ∀ q, numV (x :: q) v = if 48 ≤ x.toNat ∧ x.toNat ≤ 57 then numV q (10 * v + (x.toNat - 48)) else none := fun q => rfl
    rw [hVs] at hV
    by_cases hd : 48 ≤ x.toNat ∧ x.toNat ≤ 57
    · rw [if_pos hd] at hV
      have c3 : cm .lss (x.toNat : Int) 48 = false := cm_lo' (by omega)
      have c4 : cm .gtr (x.toNat : Int) 57 = false := cm_gt' (by omega)
      have d2 : ar .mul .u64 10 (v : Int) = ((10 * v : Nat) : Int) := by
        show IntKind.u64.wrap _ = _
        rw [IntKind.wrap_u64]; omega
      have d3 : ar .sub .u8 (x.toNat : Int) 48 = ((x.toNat - 48 : Nat) : Int) := by
        show IntKind.u8.wrap _ = _
        rw [IntKind.wrap_u8]; omega
      have d4 : IntKind.u64.wrap ((x.toNat - 48 : Nat) : Int) = ((x.toNat - 48 : Nat) : Int) := by rw [IntKind.wrap_u64]; omega
      have d5 : ar .add .u64 ((10 * v : Nat) : Int) ((x.toNat - 48 : Nat) : Int) = ((10 * v + (x.toNat - 48) : Nat) : Int) := by
        show IntKind.u64.wrap _ = _
        rw [IntKind.wrap_u64]; omega
      repeat (first | refine L.txLen (c := ?_) | refine L.convI (hz := d4) (c := ?_) | refine C.seq ?_ | refine C.region ?_ | refine L.nil ?_ | refine D.seq ?_ | refine L.move (k := ?_) | refine L.assign (k := ?_) | refine L.cm (c := ?_) | refine L.ar (c := ?_) | refine C.yes (h1 := ?_) | refine C.no (h1 := ?_) | refine L.pickF (k := ?_) | refine L.want (k := ?_) | refine C.block ?_ | refine D.blkNormal ?_ | refine C.skip ?_ | refine L.txAt (k := i) (a := t) rfl hx (c := ?_))
      exact D.then_ fun a1 w1 hs => ⟨(i + 1, 10 * v + (x.toNat - 48)), ⟨by simp only; omega, by simp only; omega, hV⟩, by simp only; omega, hs.lessE rfl (lk_cons rfl (lk_cons rfl (lk_cons rfl (lk_cons rfl (fun _ _ h => lk_nil h)))))⟩
    · rw [if_neg hd] at hV
      rw [hV] at hR
      simp only at hR
      rw [hR]
      by_cases hlo : x.toNat < 48
      · have c3 : cm .lss (x.toNat : Int) 48 = true := cm_lo (by omega)
        repeat (first | refine L.txLen (c := ?_) | refine C.seq ?_ | refine C.region ?_ | refine L.nil ?_ | refine D.seq ?_ | refine L.move (k := ?_) | refine L.assign (k := ?_) | refine L.cm (c := ?_) | refine C.yes (h1 := ?_) | refine L.pickT (k := ?_) | refine L.pass (k := ?_) | refine C.block ?_ | refine C.ret ?_ | refine D.thenRet ?_ | refine D.blkRet ?_ | refine C.skip ?_ | refine L.txAt (k := i) (a := t) rfl hx (c := ?_))
        (refine D.ret (vs := [_, _]) (RV.tmp rfl (RV.tmp rfl RV.nil)) ?_; intro w' hw; exact Post.mk (is := []) hw List.nodup_nil rfl ⟨rfl, rfl⟩)
      · have c3 : cm .lss (x.toNat : Int) 48 = false := cm_lo' (by omega)
        have c4 : cm .gtr (x.toNat : Int) 57 = true := cm_gt (by omega)
        repeat (first | refine L.txLen (c := ?_) | refine C.seq ?_ | refine C.region ?_ | refine L.nil ?_ | refine D.seq ?_ | refine L.move (k := ?_) | refine L.assign (k := ?_) | refine L.cm (c := ?_) | refine C.yes (h1 := ?_) | refine L.pickF (k := ?_) | refine L.want (k := ?_) | refine C.block ?_ | refine C.ret ?_ | refine D.thenRet ?_ | refine D.blkRet ?_ | refine C.skip ?_ | refine L.txAt (k := i) (a := t) rfl hx (c := ?_))
        (refine D.ret (vs := [_, _]) (RV.tmp rfl (RV.tmp rfl RV.nil)) ?_; intro w' hw; exact Post.mk (is := []) hw List.nodup_nil rfl ⟨rfl, rfl⟩)
  · have c2 : cm .lss (i : Int) (t.length : Int) = false := cm_lo' (by omega)
    have hdr : t.drop i = [] := List.drop_of_length_le h
    rw [hdr] at hV
    have hV2 : numV t 0 = some v := hV
    rw [hV2] at hR
    simp only at hR
    unfold numE at hR
    cases b with
    | true =>
      simp only [if_true] at hR
      rw [hR]
      repeat (first | refine L.txLen (c := ?_) | refine C.seq ?_ | refine C.region ?_ | refine L.nil ?_ | refine D.seq ?_ | refine L.move (k := ?_) | refine L.assign (k := ?_) | refine L.cm (c := ?_) | refine C.yes (h1 := ?_) | refine C.no (h1 := ?_) | refine C.ret ?_ | refine D.thenRet ?_ | refine C.exit ?_ | refine D.thenExit ?_ | refine D.blkExit ?_ | refine L.convI (c := ?_) | refine D.seqR (h := ?_) | refine negI (c := ?_))
      (refine D.ret (vs := [_, _]) (RV.tmp rfl (RV.tmp rfl RV.nil)) ?_; intro w' hw; exact Post.mk (is := []) hw List.nodup_nil rfl ⟨rfl, rfl⟩)
    | false =>
      simp only [Bool.false_eq_true, if_false] at hR
      rw [hR]
      repeat (first | refine L.txLen (c := ?_) | refine C.seq ?_ | refine C.region ?_ | refine L.nil ?_ | refine D.seq ?_ | refine L.move (k := ?_) | refine L.assign (k := ?_) | refine L.cm (c := ?_) | refine C.no (h1 := ?_) | refine C.ret ?_ | refine C.exit ?_ | refine D.thenExit ?_ | refine D.blkExit ?_ | refine C.skip ?_ | refine L.convI (c := ?_) | refine D.seqR (h := ?_))
      (refine D.ret (vs := [_, _]) (RV.tmp rfl (RV.tmp rfl RV.nil)) ?_; intro w' hw; exact Post.mk (is := []) hw List.nodup_nil rfl ⟨rfl, rfl⟩)
end Go.Proofs.YtokcamgipnaoeaaGreatDoor.Ls
