/- keysmithref01: Add, Sub, Mul; keysmithref12.bit; keysmithkit.LightRows. -/
import Derived.Test.YtkjlgapkcdcmgaaLk26
set_option linter.unusedVariables false
set_option linter.unusedSimpArgs false
namespace Go.Proofs.Ytkjlgapkcdcmgaa
open Go Go.RowKit SL
attribute [local irreducible] SL.L SL.C SL.D SL.N SL.H SL.QL SL.QW SL.QP

def addM (a b : Int) (c : Bool) : Int × Bool := if c then (ar .add .u64 (ar .add .u64 a b) 1, cm .lss (ar .add .u64 a b) a || cm .eql (ar .add .u64 (ar .add .u64 a b) 1) 0) else (ar .add .u64 a b, cm .lss (ar .add .u64 a b) a)
def subM (a b : Int) (c : Bool) : Int × Bool := if c then (ar .sub .u64 (ar .sub .u64 a b) 1, cm .lss a b || cm .eql (ar .sub .u64 a b) 0) else (ar .sub .u64 a b, cm .lss a b)
theorem add01_S (a b : Int) (c : Bool) : Ctr Try.prog 84 [.int .u64 a, .int .u64 b, .bool c] [] tt (is2 (.int .u64 (addM a b c).1) (.bool (addM a b c).2)) := by
  refine Ctr.enter Try.func84 Try.ntmps84 rfl rfl (fun w _ => ?_)
  cases c
  all_goals (repeat' (first | refine C.seq ?_ | refine C.region ?_ | refine L.nil ?_ | refine D.seq ?_ | refine L.move (k := ?_) | refine L.assign (k := ?_) | refine L.cm (c := ?_) | refine L.ar (c := ?_) | refine C.yes (h1 := ?_) | refine C.no (h1 := ?_) | refine L.pickT (k := ?_) | refine L.pickF (k := ?_) | refine L.want (k := ?_) | refine L.pass (k := ?_) | refine C.ret ?_ | refine C.skip ?_ | exact D.endsG | (refine L.orB 2 (b2 := ?_) (h1 := fun hb => ?_) (h2 := fun hb => ?_) (k := ?_); rotate_left)))
  all_goals (refine D.ret (vs := [_, _]) (RV.tmp rfl (RV.tmp rfl RV.nil)) ?_; intro w' hw; exact Post.mk (is := []) hw List.nodup_nil rfl ⟨rfl, rfl⟩)
theorem sub01_S (a b : Int) (c : Bool) : Ctr Try.prog 86 [.int .u64 a, .int .u64 b, .bool c] [] tt (is2 (.int .u64 (subM a b c).1) (.bool (subM a b c).2)) := by
  refine Ctr.enter Try.func86 Try.ntmps86 rfl rfl (fun w _ => ?_)
  cases c
  all_goals (repeat' (first | refine C.seq ?_ | refine C.region ?_ | refine L.nil ?_ | refine D.seq ?_ | refine L.move (k := ?_) | refine L.assign (k := ?_) | refine L.cm (c := ?_) | refine L.ar (c := ?_) | refine C.yes (h1 := ?_) | refine C.no (h1 := ?_) | refine L.pickT (k := ?_) | refine L.pickF (k := ?_) | refine L.want (k := ?_) | refine L.pass (k := ?_) | refine C.ret ?_ | refine C.skip ?_ | exact D.endsG | (refine L.orB 2 (b2 := ?_) (h1 := fun hb => ?_) (h2 := fun hb => ?_) (k := ?_); rotate_left)))
  all_goals (refine D.ret (vs := [_, _]) (RV.tmp rfl (RV.tmp rfl RV.nil)) ?_; intro w' hw; exact Post.mk (is := []) hw List.nodup_nil rfl ⟨rfl, rfl⟩)
def bitM (c : Bool) : Int := if c then 1 else 0
theorem bit12_S (c : Bool) : Ctr Try.prog 85 [.bool c] [] tt (is (.int .u64 (bitM c)) []) := by
  refine Ctr.enter Try.func85 Try.ntmps85 rfl rfl (fun w _ => ?_)
  cases c
  all_goals (repeat' (first | refine C.seq ?_ | refine C.region ?_ | refine L.nil ?_ | refine D.seq ?_ | refine L.move (k := ?_) | refine L.assign (k := ?_) | refine C.yes (h1 := ?_) | refine C.no (h1 := ?_) | refine C.ret ?_ | refine D.thenRet ?_ | refine C.skip ?_))
  all_goals (refine D.ret (vs := [_]) (RV.tmp rfl RV.nil) ?_; intro w' hw; exact Post.mk (is := []) hw List.nodup_nil rfl ⟨rfl, rfl⟩)
/-- The product's halves, as the document reckons them. -/
def mulM (a b : Int) : Int × Int :=
  let ah := ar .shr .u64 a 32
  let al := ar .and .u64 a 4294967295
  let bh := ar .shr .u64 b 32
  let bl := ar .and .u64 b 4294967295
  let m := ar .add .u64 (ar .mul .u64 ah bl) (ar .shr .u64 (ar .mul .u64 al bl) 32)
  let n := ar .add .u64 (ar .mul .u64 al bh) (ar .and .u64 m 4294967295)
  (ar .add .u64 (ar .add .u64 (ar .mul .u64 ah bh) (ar .shr .u64 m 32)) (ar .shr .u64 n 32), ar .mul .u64 a b)
theorem mul01_S (a b : Int) : Ctr Try.prog 83 [.int .u64 a, .int .u64 b] [] tt (is2 (.int .u64 (mulM a b).1) (.int .u64 (mulM a b).2)) := by
  refine Ctr.enter Try.func83 Try.ntmps83 rfl rfl (fun w _ => ?_)
  repeat' (first | refine C.seq ?_ | refine C.region ?_ | refine L.nil ?_ | refine D.seq ?_ | refine L.move (k := ?_) | refine L.assign (k := ?_) | refine L.ar (c := ?_) | refine C.ret ?_)
  (refine D.ret (vs := [_, _]) (RV.tmp rfl (RV.tmp rfl RV.nil)) ?_; intro w' hw; exact Post.mk (is := []) hw List.nodup_nil rfl ⟨rfl, rfl⟩)
def lightRowsM (rs : Rws) : Bool := (rs.take 41).all (fun r => cm .leq r.2.length 600) && cm .leq rs.length 40
set_option maxHeartbeats 2000000 in
theorem lightRows_S (v : Value) (rs : Rws) (hb : rs.length ≤ maxLen) : Ctr Try.prog 22 [v] [] (fun w => RdR w [] v rs) (is (.bool (lightRowsM rs)) []) := by
  refine Ctr.enter Try.func22 Try.ntmps22 rfl rfl (fun w hr => ?_)
  have sv := hr.1.1
  repeat' (first | refine C.seq ?_ | refine C.region ?_ | refine L.nil ?_ | refine D.seq ?_ | refine L.assign (k := ?_) | refine C.block ?_)
  refine C.loop (α := Nat) (fun i => i ≤ rs.length ∧ i ≤ 41 ∧ (rs.take i).all (fun r => cm .leq r.2.length 600) = true) (fun i => [(0, v), (3, .int .i64 i)]) (fun _ => []) (fun i => rs.length - i) 0
    (fun a w hs => hs.lessE rfl (lk_cons rfl (lk_cons rfl (fun _ _ h => lk_nil h)))) ⟨Nat.zero_le _, by omega, rfl⟩ ?_
  rintro i ⟨hi, hi41, ht⟩
  rcases Nat.lt_or_ge i rs.length with hlt | hge
  · have c1 : cm .lss (i : Int) rs.length = true := cm_lo (by omega)
    rcases Nat.lt_or_ge i 41 with h41 | h41
    · have c2 : cm .leq (i : Int) 40 = true := cm_le (by omega)
      obtain ⟨r, hy⟩ : ∃ r, rs[i]? = some r := ⟨_, List.getElem?_eq_getElem hlt⟩
      have o2 := hr.1.2 (by omega)
      have hrr := hr.2 r (List.mem_of_getElem? hy)
      have c3 : ar .add .i64 (i : Int) 1 = ((i + 1 : Nat) : Int) := wrap_nat (by omega)
      rcases Int.lt_or_le 600 (r.2.length : Int) with hg | hg
      · have g1 : cm .gtr (r.2.length : Int) 600 = true := cm_gt hg
        have g2 : cm .leq (r.2.length : Int) 600 = false := cm_le' hg
        repeat' (first | refine C.seq ?_ | refine C.region ?_ | refine L.nil ?_ | refine D.seq ?_ | refine L.move (k := ?_) | refine L.assign (k := ?_) | refine L.cm (c := ?_) | refine C.yes (h1 := ?_) | refine L.pickT (k := ?_) | refine L.want (k := ?_) | refine C.block ?_ | refine C.ret ?_ | refine D.thenRet ?_ | refine D.blkRet ?_ | refine C.skip ?_ | refine L.lenR sv (c := ?_) | refine L.indexR sv hlt (c := ?_) | refine L.loadF o2 (enc_at (enc := Prod.fst) hy) (c := ?_) | refine L.lenR hrr.1 (c := ?_))
        have hf : (rs.take 41).all (fun r => cm .leq r.2.length 600) = false := by
          rw [List.all_eq_false]
          exact ⟨r, by rw [List.mem_take_iff_getElem]; exact ⟨i, by omega, (List.getElem?_eq_some_iff.1 hy).2⟩, by rw [g2]; simp⟩
        (refine D.ret (vs := [_]) (RV.tmp rfl RV.nil) ?_; intro w' hw; exact Post.mk (is := []) hw List.nodup_nil rfl ⟨by unfold lightRowsM; rw [hf]; rfl, rfl⟩)
      · have g1 : cm .gtr (r.2.length : Int) 600 = false := cm_gt' hg
        have g2 : cm .leq (r.2.length : Int) 600 = true := cm_le hg
        repeat' (first | refine C.seq ?_ | refine C.region ?_ | refine L.nil ?_ | refine D.seq ?_ | refine L.move (k := ?_) | refine L.assign (k := ?_) | refine L.cm (c := ?_) | refine L.ar (c := ?_) | refine C.yes (h1 := ?_) | refine C.no (h1 := ?_) | refine L.pickT (k := ?_) | refine L.want (k := ?_) | refine C.block ?_ | refine D.blkNormal ?_ | refine C.skip ?_ | refine L.lenR sv (c := ?_) | refine L.indexR sv hlt (c := ?_) | refine L.loadF o2 (enc_at (enc := Prod.fst) hy) (c := ?_) | refine L.lenR hrr.1 (c := ?_))
        exact D.then_ fun a1 w1 hs => ⟨i + 1, ⟨by omega, by omega, by rw [take_all hy, ht, g2]; rfl⟩, by omega, hs.lessE rfl (lk_cons rfl (lk_cons rfl (fun _ _ h => lk_nil h)))⟩
    · have c2 : cm .leq (i : Int) 40 = false := cm_le' (by omega)
      have h41' : i = 41 := by omega
      rw [h41'] at ht
      repeat' (first | refine C.seq ?_ | refine C.region ?_ | refine L.nil ?_ | refine D.seq ?_ | refine L.move (k := ?_) | refine L.assign (k := ?_) | refine L.cm (c := ?_) | refine C.no (h1 := ?_) | refine L.pickT (k := ?_) | refine L.want (k := ?_) | refine C.ret ?_ | refine C.exit ?_ | refine D.thenExit ?_ | refine D.blkExit ?_ | refine L.lenR sv (c := ?_))
      (refine D.ret (vs := [_]) (RV.tmp rfl RV.nil) ?_; intro w' hw; exact Post.mk (is := []) hw List.nodup_nil rfl ⟨by unfold lightRowsM; rw [ht]; rfl, rfl⟩)
  · have c1 : cm .lss (i : Int) rs.length = false := cm_lo' (by omega)
    rw [List.take_of_length_le hge] at ht
    repeat' (first | refine C.seq ?_ | refine C.region ?_ | refine L.nil ?_ | refine D.seq ?_ | refine L.move (k := ?_) | refine L.assign (k := ?_) | refine L.cm (c := ?_) | refine C.no (h1 := ?_) | refine L.pickF (k := ?_) | refine L.pass (k := ?_) | refine C.ret ?_ | refine C.exit ?_ | refine D.thenExit ?_ | refine D.blkExit ?_ | refine L.lenR sv (c := ?_))
    (refine D.ret (vs := [_]) (RV.tmp rfl RV.nil) ?_; intro w' hw; exact Post.mk (is := []) hw List.nodup_nil rfl ⟨by unfold lightRowsM; rw [List.take_of_length_le (by omega), ht]; rfl, rfl⟩)
end Go.Proofs.Ytkjlgapkcdcmgaa
