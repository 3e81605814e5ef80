/- Rows of limbs: secrecy.sizes, may, Public; keysmithref12.Rows. -/
import Derived.Test.YtkjlgapkcdcmgaaLk19
set_option linter.unusedVariables false
set_option linter.unusedSimpArgs false
namespace Go.Proofs.Ytkjlgapkcdcmgaa
open Go Go.RowKit SL
attribute [local irreducible] SL.L SL.C SL.D SL.N SL.H SL.QL SL.QW SL.QP

/-- Rows of limbs, each with its value. -/
abbrev Rws := List (Value × List Int)
def RdR (w : World) (A : List Nat) (v : Value) (rs : Rws) : Prop := Rd w A v rs.length (rs.map (·.1)) ∧ ∀ r ∈ rs, Rd w A r.1 r.2.length (r.2.map u64)
theorem RdR.at {w0 w : World} {A : List Nat} {M : Hp} {v : Value} {rs : Rws} (h : RdR w0 A v rs) (hw : At w0 A M w) : RdR w [] v rs := ⟨h.1.at hw, fun r hr => (h.2 r hr).at hw⟩
theorem RdR.base {w0 w : World} {A : List Nat} {M : Hp} {v : Value} {rs : Rws} (h : RdR w0 A v rs) (hw : At w0 A M w) (M' : Hp) (hM : ∀ x ∈ M', x ∈ M) : RdR w (keys M') v rs := ⟨h.1.base hw M' hM, fun r hr => (h.2 r hr).base hw M' hM⟩
theorem RdR.back {w0 w1 : World} {A : List Nat} {B M' : Hp} {v : Value} {rs : Rws} (h : RdR w0 A v rs) (hw : At w0 A (B ++ M') w1) : RdR w1 (keys M') v rs := h.base hw M' (fun x hx => List.mem_append_right _ hx)
def okRow (b : Bf) (n : Nat) : Bool := if cm .eql b.kind 3 then cm .eql n 0 else cm .eql n b.size
def sizesM (bs : List Bf) (rs : Rws) : Bool := (bs.zip rs).all fun x => okRow x.1 x.2.2.length
def rowsM (bs : List Bf) (rs : Rws) : Bool := decide (rs.length = bs.length) && sizesM bs rs
theorem take_all {α : Type} {p : α → Bool} {xs : List α} {i : Nat} {x : α} (hx : xs[i]? = some x) : (xs.take (i + 1)).all p = ((xs.take i).all p && p x) := by
  rw [List.take_add_one, hx, List.all_append]; simp
theorem all_no {α : Type} {p : α → Bool} {xs : List α} {i : Nat} {x : α} (hx : xs[i]? = some x) (h : p x = false) : xs.all p = false := by
  rw [List.all_eq_false]; exact ⟨x, List.mem_of_getElem? hx, by rw [h]; simp⟩
theorem zip_at {α β : Type} {xs : List α} {ys : List β} {i : Nat} {x : α} {y : β} (hx : xs[i]? = some x) (hy : ys[i]? = some y) : (xs.zip ys)[i]? = some (x, y) := by
  rw [List.getElem?_zip_eq_some]; exact ⟨hx, hy⟩
theorem encB_ex (b : Bf) : encB b = [.int .i64 b.size, .int .i64 b.kind, .bool b.sec] := rfl
set_option maxHeartbeats 4000000 in
theorem sizes_S (regs : Int) (vb vo v : Value) (bs : List Bf) (rs : Rws) (hl : rs.length = bs.length) (hbl : bs.length ≤ 1000000) : Ctr Try.prog 81 [progV regs vb vo, v] [] (fun w => Rd w [] vb bs.length (bs.flatMap encB) ∧ RdR w [] v rs) (is (.bool (sizesM bs rs)) []) := by
  refine Ctr.enter Try.func81 Try.ntmps81 rfl rfl (fun w hr => ?_)
  have s1 := hr.1.1
  have sv := hr.2.1.1
  unfold progV
  repeat' (first | refine C.seq ?_ | refine C.region ?_ | refine L.nil ?_ | refine D.seq ?_ | refine L.move (k := ?_) | refine L.assign (k := ?_) | refine L.fieldAddr (c := ?_) | refine L.load1 0 (c := ?_) | refine L.box (c := fun _ => ?_) | refine C.block ?_ | refine L.lenR s1 (c := ?_))
  rename_i pb
  refine C.loop (α := Nat) (fun i => i ≤ bs.length ∧ ((bs.zip rs).take i).all (fun x => okRow x.1 x.2.2.length) = true) (fun i => [(1, v), (8, vb), (9, .int .i64 bs.length), (10, .int .i64 i)]) (fun _ => [(pb, ob [.int .i64 regs, vb, vo] 25)]) (fun i => bs.length - i) 0
    (fun a w hs => hs.lessE rfl (lk_cons rfl (lk_cons rfl (lk_cons rfl (lk_cons rfl (fun _ _ h => lk_nil h)))))) ⟨Nat.zero_le _, rfl⟩ ?_
  rintro i ⟨hi, ht⟩
  rcases Nat.lt_or_ge i bs.length with hlt | hge
  · have c1 : cm .lss (i : Int) bs.length = true := cm_lo (by omega)
    obtain ⟨b, hb⟩ : ∃ b, bs[i]? = some b := ⟨_, List.getElem?_eq_getElem hlt⟩
    obtain ⟨r, hy⟩ : ∃ r, rs[i]? = some r := ⟨_, List.getElem?_eq_getElem (by omega)⟩
    have hlv : i < rs.length := by omega
    have o1 := hr.1.2 (by omega)
    have o2 := hr.2.1.2 (by omega)
    have hrr := hr.2.2 r (List.mem_of_getElem? hy)
    have hz := zip_at hb hy
    obtain ⟨k0, k1, k2⟩ := b_at hb
    obtain ⟨hA0, hal⟩ := flat_at encB_len hb
    have hA := hA0.trans (encB_ex b)
    have c3 : ar .add .i64 (i : Int) 1 = ((i + 1 : Nat) : Int) := wrap_nat (by omega)
    by_cases hk : b.kind = 3
    · have k3 : cm .eql b.kind 3 = true := cm_yes hk
      have k4 : cm .neq b.kind 3 = false := cm_ne' hk
      by_cases h0 : r.2.length = 0
      · have g1 : cm .gtr (r.2.length : Int) 0 = false := cm_gt' (by omega)
        have g2 : cm .eql (r.2.length : Int) 0 = true := cm_yes (by omega)
        repeat' (first | refine C.seq ?_ | refine C.region ?_ | refine L.nil ?_ | refine D.seq ?_ | refine L.move (k := ?_) | refine L.assign (k := ?_) | refine L.cm (c := ?_) | refine L.ar (c := ?_) | refine L.fieldAddr (c := ?_) | refine L.load1 0 (c := ?_) | refine L.storeV 0 (c := ?_) | refine L.alloc (c := fun _ => ?_) | refine C.yes (h1 := ?_) | refine C.no (h1 := ?_) | refine L.pickT (k := ?_) | refine L.pickF (k := ?_) | refine L.want (k := ?_) | refine L.pass (k := ?_) | refine C.block ?_ | refine D.blkNormal ?_ | refine C.skip ?_ | exact D.endsQ | refine QL.fin ?_ | refine C.quiet (h := ?_) | (refine QL.step (v := ?_) (by exact rfl) (by exact rfl) ?_ ?_; rotate_left) | refine L.lenR s1 (c := ?_) | refine L.lenR sv (c := ?_) | refine L.indexR s1 hlt (c := ?_) | refine L.indexR sv hlv (c := ?_) | refine L.loadOA o1 (i := i * 3) (ho := rfl) (hi := hal) (hcs := hA) (c := ?_) | refine L.loadF o2 (enc_at (enc := Prod.fst) hy) (c := ?_) | refine L.lenR hrr.1 (c := ?_))
        exact D.then_ fun a1 w1 hs => ⟨i + 1, ⟨by omega, by rw [take_all hz, ht]; simp [okRow, k3, g2]⟩, by omega, hs.lessD 1 rfl (lk_cons rfl (lk_cons rfl (lk_cons rfl (lk_cons rfl (fun _ _ h => lk_nil h)))))⟩
      · have g1 : cm .gtr (r.2.length : Int) 0 = true := cm_gt (by omega)
        have g2 : cm .eql (r.2.length : Int) 0 = false := cm_no (by omega)
        repeat' (first | refine C.seq ?_ | refine C.region ?_ | refine L.nil ?_ | refine D.seq ?_ | refine L.move (k := ?_) | refine L.assign (k := ?_) | refine L.cm (c := ?_) | refine L.fieldAddr (c := ?_) | refine L.load1 0 (c := ?_) | refine L.storeV 0 (c := ?_) | refine L.alloc (c := fun _ => ?_) | refine C.yes (h1 := ?_) | refine L.pickT (k := ?_) | refine L.want (k := ?_) | refine L.pass (k := ?_) | refine C.block ?_ | refine C.ret ?_ | refine D.thenRet ?_ | refine D.blkRet ?_ | refine C.skip ?_ | refine L.passU (k := ?_) | exact D.endsQ | refine QL.fin ?_ | refine C.quiet (h := ?_) | (refine QL.step (v := ?_) (by exact rfl) (by exact rfl) ?_ ?_; rotate_left) | refine L.lenR s1 (c := ?_) | refine L.lenR sv (c := ?_) | refine L.indexR s1 hlt (c := ?_) | refine L.indexR sv hlv (c := ?_) | refine L.loadOA o1 (i := i * 3) (ho := rfl) (hi := hal) (hcs := hA) (c := ?_) | refine L.loadF o2 (enc_at (enc := Prod.fst) hy) (c := ?_) | refine L.lenR hrr.1 (c := ?_))
        (refine D.ret (vs := [_]) (RV.tmp rfl RV.nil) ?_; intro w' hw; exact Post.mk (is := []) hw List.nodup_nil rfl ⟨by rw [show sizesM bs rs = false from all_no hz (by simp [okRow, k3, g2])]; rfl, rfl⟩)
    · have k3 : cm .eql b.kind 3 = false := cm_no hk
      have k4 : cm .neq b.kind 3 = true := cm_ne hk
      by_cases h0 : (r.2.length : Int) = b.size
      · have g1 : cm .neq (r.2.length : Int) b.size = false := cm_ne' h0
        have g2 : cm .eql (r.2.length : Int) b.size = true := cm_yes h0
        repeat' (first | refine C.seq ?_ | refine C.region ?_ | refine L.nil ?_ | refine D.seq ?_ | refine L.move (k := ?_) | refine L.assign (k := ?_) | refine L.cm (c := ?_) | refine L.ar (c := ?_) | refine L.fieldAddr (c := ?_) | refine L.load1 0 (c := ?_) | refine L.storeV 0 (c := ?_) | refine L.alloc (c := fun _ => ?_) | refine C.yes (h1 := ?_) | refine C.no (h1 := ?_) | refine L.pickT (k := ?_) | refine L.pickF (k := ?_) | refine L.want (k := ?_) | refine L.pass (k := ?_) | refine C.block ?_ | refine D.blkNormal ?_ | refine C.skip ?_ | exact D.endsQ | refine QL.fin ?_ | refine C.quiet (h := ?_) | (refine QL.step (v := ?_) (by exact rfl) (by exact rfl) ?_ ?_; rotate_left) | refine L.lenR s1 (c := ?_) | refine L.lenR sv (c := ?_) | refine L.indexR s1 hlt (c := ?_) | refine L.indexR sv hlv (c := ?_) | refine L.loadOA o1 (i := i * 3) (ho := rfl) (hi := hal) (hcs := hA) (c := ?_) | refine L.loadF o2 (enc_at (enc := Prod.fst) hy) (c := ?_) | refine L.lenR hrr.1 (c := ?_))
        exact D.then_ fun a1 w1 hs => ⟨i + 1, ⟨by omega, by rw [take_all hz, ht]; simp [okRow, k3, g2]⟩, by omega, hs.lessD 1 rfl (lk_cons rfl (lk_cons rfl (lk_cons rfl (lk_cons rfl (fun _ _ h => lk_nil h)))))⟩
      · have g1 : cm .neq (r.2.length : Int) b.size = true := cm_ne h0
        have g2 : cm .eql (r.2.length : Int) b.size = false := cm_no h0
        repeat' (first | refine C.seq ?_ | refine C.region ?_ | refine L.nil ?_ | refine D.seq ?_ | refine L.move (k := ?_) | refine L.assign (k := ?_) | refine L.cm (c := ?_) | refine L.fieldAddr (c := ?_) | refine L.load1 0 (c := ?_) | refine L.storeV 0 (c := ?_) | refine L.alloc (c := fun _ => ?_) | refine C.yes (h1 := ?_) | refine L.pickT (k := ?_) | refine L.pickF (k := ?_) | refine L.want (k := ?_) | refine L.pass (k := ?_) | refine C.block ?_ | refine C.ret ?_ | refine D.thenRet ?_ | refine D.blkRet ?_ | refine C.skip ?_ | exact D.endsQ | refine QL.fin ?_ | refine C.quiet (h := ?_) | (refine QL.step (v := ?_) (by exact rfl) (by exact rfl) ?_ ?_; rotate_left) | refine L.lenR s1 (c := ?_) | refine L.lenR sv (c := ?_) | refine L.indexR s1 hlt (c := ?_) | refine L.indexR sv hlv (c := ?_) | refine L.loadOA o1 (i := i * 3) (ho := rfl) (hi := hal) (hcs := hA) (c := ?_) | refine L.loadF o2 (enc_at (enc := Prod.fst) hy) (c := ?_) | refine L.lenR hrr.1 (c := ?_))
        (refine D.ret (vs := [_]) (RV.tmp rfl RV.nil) ?_; intro w' hw; exact Post.mk (is := []) hw List.nodup_nil rfl ⟨by rw [show sizesM bs rs = false from all_no hz (by simp [okRow, k3, g2])]; rfl, rfl⟩)
  · have c1 : cm .lss (i : Int) bs.length = false := cm_lo' (by omega)
    repeat' (first | refine C.seq ?_ | refine C.region ?_ | refine L.nil ?_ | refine D.seq ?_ | refine L.assign (k := ?_) | refine L.cm (c := ?_) | refine C.no (h1 := ?_) | refine C.ret ?_ | refine C.exit ?_ | refine D.thenExit ?_ | refine D.blkExit ?_)
    rw [List.take_of_length_le (by simp; omega)] at ht
    (refine D.ret (vs := [_]) (RV.tmp rfl RV.nil) ?_; intro w' hw; exact Post.mk (is := []) hw List.nodup_nil rfl ⟨by rw [show sizesM bs rs = true from ht]; rfl, rfl⟩)
set_option maxHeartbeats 4000000 in
theorem may_S (regs : Int) (vb vo v : Value) (bs : List Bf) (rs : Rws) (hbl : bs.length ≤ 1000000) : Ctr Try.prog 61 [progV regs vb vo, v] [] (fun w => Rd w [] vb bs.length (bs.flatMap encB) ∧ RdR w [] v rs) (is (.bool (rowsM bs rs)) []) := by
  refine Ctr.enter Try.func61 Try.ntmps61 rfl rfl (fun w hr => ?_)
  have s1 := hr.1.1
  have sv := hr.2.1.1
  unfold progV
  by_cases hl : rs.length = bs.length
  · have c1 : cm .eql (rs.length : Int) bs.length = true := cm_yes (by omega)
    have k := sizes_S regs vb vo v bs rs hl hbl
    repeat' (first | refine C.seq ?_ | refine C.region ?_ | refine L.nil ?_ | refine D.seq ?_ | refine L.move (k := ?_) | refine L.assign (k := ?_) | refine L.cm (c := ?_) | refine L.fieldAddr (c := ?_) | refine L.load1 0 (c := ?_) | refine L.loadA 0 (c := ?_) | refine L.box (c := fun _ => ?_) | refine L.pickT (k := ?_) | refine L.want (k := ?_) | refine C.ret ?_ | refine L.lenR s1 (c := ?_) | refine L.lenR sv (c := ?_) | refine L.callQ k (hpre := fun w hw => ⟨hr.1.at hw, hr.2.at hw⟩) (k := ?_))
    (refine D.ret (vs := [_]) (RV.tmp rfl RV.nil) ?_; intro w' hw; exact Post.mk (is := []) hw List.nodup_nil rfl ⟨by rw [show rowsM bs rs = sizesM bs rs by unfold rowsM; rw [decide_eq_true hl, Bool.true_and]]; rfl, rfl⟩)
  · have c1 : cm .eql (rs.length : Int) bs.length = false := cm_no (by omega)
    repeat' (first | refine C.seq ?_ | refine C.region ?_ | refine L.nil ?_ | refine D.seq ?_ | refine L.move (k := ?_) | refine L.assign (k := ?_) | refine L.cm (c := ?_) | refine L.fieldAddr (c := ?_) | refine L.load1 0 (c := ?_) | refine L.box (c := fun _ => ?_) | refine L.pickF (k := ?_) | refine L.pass (k := ?_) | refine C.ret ?_ | refine L.lenR s1 (c := ?_) | refine L.lenR sv (c := ?_))
    (refine D.ret (vs := [_]) (RV.tmp rfl RV.nil) ?_; intro w' hw; exact Post.mk (is := []) hw List.nodup_nil rfl ⟨by rw [show rowsM bs rs = false by unfold rowsM; rw [decide_eq_false hl, Bool.false_and]]; rfl, rfl⟩)
set_option maxHeartbeats 4000000 in
theorem rrows_S (regs : Int) (vb vo v : Value) (bs : List Bf) (rs : Rws) (hbl : bs.length ≤ 1000000) : Ctr Try.prog 26 [progV regs vb vo, v] [] (fun w => Rd w [] vb bs.length (bs.flatMap encB) ∧ RdR w [] v rs) (is (.bool (rowsM bs rs)) []) := by
  refine Ctr.enter Try.func26 Try.ntmps26 rfl rfl (fun w hr => ?_)
  have s1 := hr.1.1
  have sv := hr.2.1.1
  unfold progV
  by_cases hl : rs.length ≠ bs.length
  · have c1 : cm .neq (rs.length : Int) bs.length = true := cm_ne (by omega)
    repeat' (first | refine C.seq ?_ | refine C.region ?_ | refine L.nil ?_ | refine D.seq ?_ | refine L.move (k := ?_) | refine L.assign (k := ?_) | refine L.cm (c := ?_) | refine L.fieldAddr (c := ?_) | refine L.load1 0 (c := ?_) | refine L.box (c := fun _ => ?_) | refine C.yes (h1 := ?_) | refine C.ret ?_ | refine D.thenRet ?_ | refine L.lenR s1 (c := ?_) | refine L.lenR sv (c := ?_))
    (refine D.ret (vs := [_]) (RV.tmp rfl RV.nil) ?_; intro w' hw; exact Post.mk (is := []) hw List.nodup_nil rfl ⟨by rw [show rowsM bs rs = false by unfold rowsM; rw [decide_eq_false hl, Bool.false_and]]; rfl, rfl⟩)
  replace hl : rs.length = bs.length := by omega
  have c1 : cm .neq (rs.length : Int) bs.length = false := cm_ne' (by omega)
  repeat' (first | refine C.seq ?_ | refine C.region ?_ | refine L.nil ?_ | refine D.seq ?_ | refine L.move (k := ?_) | refine L.assign (k := ?_) | refine L.cm (c := ?_) | refine L.fieldAddr (c := ?_) | refine L.load1 0 (c := ?_) | refine L.box (c := fun _ => ?_) | refine C.no (h1 := ?_) | refine C.block ?_ | refine C.skip ?_ | refine L.lenR s1 (c := ?_) | refine L.lenR sv (c := ?_))
  rename_i pb
  refine C.loop (α := Nat) (fun i => i ≤ bs.length ∧ ((bs.zip rs).take i).all (fun x => okRow x.1 x.2.2.length) = true) (fun i => [(1, v), (2, .pointer (some ⟨pb, 0, none⟩)), (5, .int .i64 i)]) (fun _ => [(pb, ob [.int .i64 regs, vb, vo] 25)]) (fun i => bs.length - i) 0
    (fun a w hs => hs.lessE rfl (lk_cons rfl (lk_cons rfl (lk_cons rfl (fun _ _ h => lk_nil h))))) ⟨Nat.zero_le _, rfl⟩ ?_
  rintro i ⟨hi, ht⟩
  have hfin : rowsM bs rs = sizesM bs rs := by unfold rowsM; rw [decide_eq_true hl, Bool.true_and]
  rcases Nat.lt_or_ge i bs.length with hlt | hge
  · have c2 : cm .lss (i : Int) rs.length = true := cm_lo (by omega)
    obtain ⟨b, hb⟩ : ∃ b, bs[i]? = some b := ⟨_, List.getElem?_eq_getElem hlt⟩
    obtain ⟨r, hy⟩ : ∃ r, rs[i]? = some r := ⟨_, List.getElem?_eq_getElem (by omega)⟩
    have hlv : i < rs.length := by omega
    have o1 := hr.1.2 (by omega)
    have o2 := hr.2.1.2 (by omega)
    have hrr := hr.2.2 r (List.mem_of_getElem? hy)
    have hz := zip_at hb hy
    obtain ⟨k0, k1, k2⟩ := b_at hb
    obtain ⟨hA0, hal⟩ := flat_at encB_len hb
    have hA := hA0.trans (encB_ex b)
    have c3 : ar .add .i64 (i : Int) 1 = ((i + 1 : Nat) : Int) := wrap_nat (by omega)
    by_cases hk : b.kind = 3
    · have k3 : cm .eql b.kind 3 = true := cm_yes hk
      by_cases h0 : r.2.length = 0
      · have g1 : cm .neq (r.2.length : Int) 0 = false := cm_ne' (by omega)
        have g2 : cm .eql (r.2.length : Int) 0 = true := cm_yes (by omega)
        repeat' (first | refine C.seq ?_ | refine C.region ?_ | refine L.nil ?_ | refine D.seq ?_ | refine L.move (k := ?_) | refine L.assign (k := ?_) | refine L.cm (c := ?_) | refine L.ar (c := ?_) | refine L.fieldAddr (c := ?_) | refine L.load1 0 (c := ?_) | refine C.yes (h1 := ?_) | refine C.no (h1 := ?_) | refine C.block ?_ | refine D.blkNormal ?_ | refine C.skip ?_ | refine L.lenR s1 (c := ?_) | refine L.lenR sv (c := ?_) | refine L.indexR s1 hlt (c := ?_) | refine L.indexR sv hlv (c := ?_) | refine L.loadOA o1 (i := i * 3) (ho := rfl) (hi := hal) (hcs := hA) (c := ?_) | refine L.loadF o2 (enc_at (enc := Prod.fst) hy) (c := ?_) | refine L.lenR hrr.1 (c := ?_) | refine L.loadF o1 k0 (c := ?_) | refine L.loadF o1 k1 (c := ?_))
        exact D.then_ fun a1 w1 hs => ⟨i + 1, ⟨by omega, by rw [take_all hz, ht]; simp [okRow, k3, g2]⟩, by omega, hs.lessD 0 rfl (lk_cons rfl (lk_cons rfl (lk_cons rfl (fun _ _ h => lk_nil h))))⟩
      · have g1 : cm .neq (r.2.length : Int) 0 = true := cm_ne (by omega)
        have g2 : cm .eql (r.2.length : Int) 0 = false := cm_no (by omega)
        repeat' (first | refine C.seq ?_ | refine C.region ?_ | refine L.nil ?_ | refine D.seq ?_ | refine L.move (k := ?_) | refine L.assign (k := ?_) | refine L.cm (c := ?_) | refine L.fieldAddr (c := ?_) | refine L.load1 0 (c := ?_) | refine C.yes (h1 := ?_) | refine C.block ?_ | refine C.ret ?_ | refine D.thenRet ?_ | refine D.blkRet ?_ | refine C.skip ?_ | refine L.lenR s1 (c := ?_) | refine L.lenR sv (c := ?_) | refine L.indexR s1 hlt (c := ?_) | refine L.indexR sv hlv (c := ?_) | refine L.loadOA o1 (i := i * 3) (ho := rfl) (hi := hal) (hcs := hA) (c := ?_) | refine L.loadF o2 (enc_at (enc := Prod.fst) hy) (c := ?_) | refine L.lenR hrr.1 (c := ?_) | refine L.loadF o1 k0 (c := ?_) | refine L.loadF o1 k1 (c := ?_))
        (refine D.ret (vs := [_]) (RV.tmp rfl RV.nil) ?_; intro w' hw; exact Post.mk (is := []) hw List.nodup_nil rfl ⟨by rw [hfin, show sizesM bs rs = false from all_no hz (by simp [okRow, k3, g2])]; rfl, rfl⟩)
    · have k3 : cm .eql b.kind 3 = false := cm_no hk
      by_cases h0 : (r.2.length : Int) = b.size
      · have g1 : cm .neq (r.2.length : Int) b.size = false := cm_ne' h0
        have g2 : cm .eql (r.2.length : Int) b.size = true := cm_yes h0
        repeat' (first | refine C.seq ?_ | refine C.region ?_ | refine L.nil ?_ | refine D.seq ?_ | refine L.move (k := ?_) | refine L.assign (k := ?_) | refine L.cm (c := ?_) | refine L.ar (c := ?_) | refine L.fieldAddr (c := ?_) | refine L.load1 0 (c := ?_) | refine C.yes (h1 := ?_) | refine C.no (h1 := ?_) | refine C.block ?_ | refine D.blkNormal ?_ | refine C.skip ?_ | refine L.lenR s1 (c := ?_) | refine L.lenR sv (c := ?_) | refine L.indexR s1 hlt (c := ?_) | refine L.indexR sv hlv (c := ?_) | refine L.loadOA o1 (i := i * 3) (ho := rfl) (hi := hal) (hcs := hA) (c := ?_) | refine L.loadF o2 (enc_at (enc := Prod.fst) hy) (c := ?_) | refine L.lenR hrr.1 (c := ?_) | refine L.loadF o1 k0 (c := ?_) | refine L.loadF o1 k1 (c := ?_))
        exact D.then_ fun a1 w1 hs => ⟨i + 1, ⟨by omega, by rw [take_all hz, ht]; simp [okRow, k3, g2]⟩, by omega, hs.lessD 0 rfl (lk_cons rfl (lk_cons rfl (lk_cons rfl (fun _ _ h => lk_nil h))))⟩
      · have g1 : cm .neq (r.2.length : Int) b.size = true := cm_ne h0
        have g2 : cm .eql (r.2.length : Int) b.size = false := cm_no h0
        repeat' (first | refine C.seq ?_ | refine C.region ?_ | refine L.nil ?_ | refine D.seq ?_ | refine L.move (k := ?_) | refine L.assign (k := ?_) | refine L.cm (c := ?_) | refine L.fieldAddr (c := ?_) | refine L.load1 0 (c := ?_) | refine C.yes (h1 := ?_) | refine C.no (h1 := ?_) | refine C.block ?_ | refine C.ret ?_ | refine D.thenRet ?_ | refine D.blkRet ?_ | refine C.skip ?_ | refine L.lenR s1 (c := ?_) | refine L.lenR sv (c := ?_) | refine L.indexR s1 hlt (c := ?_) | refine L.indexR sv hlv (c := ?_) | refine L.loadOA o1 (i := i * 3) (ho := rfl) (hi := hal) (hcs := hA) (c := ?_) | refine L.loadF o2 (enc_at (enc := Prod.fst) hy) (c := ?_) | refine L.lenR hrr.1 (c := ?_) | refine L.loadF o1 k0 (c := ?_) | refine L.loadF o1 k1 (c := ?_))
        (refine D.ret (vs := [_]) (RV.tmp rfl RV.nil) ?_; intro w' hw; exact Post.mk (is := []) hw List.nodup_nil rfl ⟨by rw [hfin, show sizesM bs rs = false from all_no hz (by simp [okRow, k3, g2])]; rfl, rfl⟩)
  · have c2 : cm .lss (i : Int) rs.length = false := cm_lo' (by omega)
    repeat' (first | refine C.seq ?_ | refine C.region ?_ | refine L.nil ?_ | refine D.seq ?_ | refine L.move (k := ?_) | refine L.assign (k := ?_) | refine L.cm (c := ?_) | refine C.no (h1 := ?_) | refine C.ret ?_ | refine C.exit ?_ | refine D.thenExit ?_ | refine D.blkExit ?_ | refine L.lenR sv (c := ?_))
    rw [List.take_of_length_le (by simp; omega)] at ht
    (refine D.ret (vs := [_]) (RV.tmp rfl RV.nil) ?_; intro w' hw; exact Post.mk (is := []) hw List.nodup_nil rfl ⟨by rw [hfin, show sizesM bs rs = true from ht]; rfl, rfl⟩)
/-- What Public tells. -/
def pubOne (x : Bf × (Value × List Int) × (Value × List Int)) : Bool := x.1.sec || decide (x.2.1.2 = x.2.2.2)
def pubM (bs : List Bf) (ra rb : Rws) : Bool := (bs.zip (ra.zip rb)).all pubOne
def publicM (regs : Int) (bs : List Bf) (os : List Lop) (ra rb : Rws) : Bool := ((decide ((checkM regs bs os).2 = 0) && rowsM bs ra) && rowsM bs rb) && pubM bs ra rb
set_option maxHeartbeats 8000000 in
theorem public_S (regs : Int) (vb vo va ve : Value) (bs : List Bf) (os : List Lop) (ra rb : Rws) (hbl : bs.length ≤ 1000000) (hsm : ∀ r ∈ ra, r.2.length ≤ 1000000) : Ctr Try.prog 25 [progV regs vb vo, va, ve] []
    (fun w => (Rd w [] vb bs.length (bs.flatMap encB) ∧ Rd w [] vo os.length (os.flatMap encO)) ∧ RdR w [] va ra ∧ RdR w [] ve rb) (is (.bool (publicM regs bs os ra rb)) []) := by
  refine Ctr.enter Try.func25 Try.ntmps25 rfl rfl (fun w hr => ?_)
  obtain ⟨⟨hr1, hr2⟩, hra, hrb⟩ := hr
  have s1 := hr1.1
  have sa := hra.1.1
  have sb := hrb.1.1
  have kC := check_S regs vb vo bs os (by unfold maxLen; omega)
  have kA := may_S regs vb vo va bs ra hbl
  have kB := may_S regs vb vo ve bs rb hbl
  unfold progV
  repeat' (first | refine C.seq ?_ | refine C.region ?_ | refine L.nil ?_ | refine D.seq ?_ | refine L.assign (k := ?_) | refine L.loadA 0 (c := ?_) | refine L.box (c := fun _ => ?_))
  rename_i pb
  refine L.callP [] kC (hpre := fun w hw => ⟨hr1.at hw, hr2.at hw⟩) (k := ?_)
  rintro v B ⟨rfl, rfl⟩
  rw [hdrop_nil, List.nil_append]
  unfold shut
  by_cases he : (checkM regs bs os).2 ≠ 0
  · have c1 : cm .neq (checkM regs bs os).2 0 = true := cm_ne he
    repeat' (first | refine C.seq ?_ | refine C.region ?_ | refine L.nil ?_ | refine D.seq ?_ | refine L.move (k := ?_) | refine L.assign (k := ?_) | refine L.cm (c := ?_) | refine L.extract (c := ?_) | refine C.yes (h1 := ?_) | refine L.pickT (k := ?_) | refine L.pass (k := ?_) | refine C.ret ?_ | refine D.thenRet ?_)
    (refine D.ret (vs := [_]) (RV.tmp rfl RV.nil) ?_; intro w' hw; exact Post.mk (is := []) hw List.nodup_nil rfl ⟨by rw [show publicM regs bs os ra rb = false by unfold publicM; rw [decide_eq_false he]; rfl]; rfl, rfl⟩)
  replace he : (checkM regs bs os).2 = 0 := by omega
  have c1 : cm .neq (checkM regs bs os).2 0 = false := cm_ne' he
  cases ha : rowsM bs ra with
  | false =>
    rw [ha] at kA
    repeat' (first | refine C.seq ?_ | refine C.region ?_ | refine L.nil ?_ | refine D.seq ?_ | refine L.move (k := ?_) | refine L.assign (k := ?_) | refine L.cm (c := ?_) | refine L.loadA 0 (c := ?_) | refine L.extract (c := ?_) | refine C.yes (h1 := ?_) | refine L.pickT (k := ?_) | refine L.pickF (k := ?_) | refine L.want (k := ?_) | refine L.pass (k := ?_) | refine L.not (c := ?_) | refine C.ret ?_ | refine D.thenRet ?_ | refine L.callQ kA (hpre := fun w hw => ⟨hr1.at hw, hra.at hw⟩) (k := ?_))
    (refine D.ret (vs := [_]) (RV.tmp rfl RV.nil) ?_; intro w' hw; exact Post.mk (is := []) hw List.nodup_nil rfl ⟨by rw [show publicM regs bs os ra rb = false by unfold publicM; rw [ha]; simp]; rfl, rfl⟩)
  | true =>
  rw [ha] at kA
  cases hb : rowsM bs rb with
  | false =>
    rw [hb] at kB
    repeat' (first | refine C.seq ?_ | refine C.region ?_ | refine L.nil ?_ | refine D.seq ?_ | refine L.move (k := ?_) | refine L.assign (k := ?_) | refine L.cm (c := ?_) | refine L.loadA 0 (c := ?_) | refine L.extract (c := ?_) | refine C.yes (h1 := ?_) | refine L.pickF (k := ?_) | refine L.want (k := ?_) | refine L.not (c := ?_) | refine C.ret ?_ | refine D.thenRet ?_ | refine L.callQ kA (hpre := fun w hw => ⟨hr1.at hw, hra.at hw⟩) (k := ?_) | refine L.callQ kB (hpre := fun w hw => ⟨hr1.at hw, hrb.at hw⟩) (k := ?_))
    (refine D.ret (vs := [_]) (RV.tmp rfl RV.nil) ?_; intro w' hw; exact Post.mk (is := []) hw List.nodup_nil rfl ⟨by rw [show publicM regs bs os ra rb = false by unfold publicM; rw [hb]; simp]; rfl, rfl⟩)
  | true =>
  rw [hb] at kB
  have hfin : publicM regs bs os ra rb = pubM bs ra rb := by unfold publicM; rw [ha, hb, decide_eq_true he]; rfl
  have hla : ra.length = bs.length := by unfold rowsM at ha; simp at ha; exact ha.1
  have hlb : rb.length = bs.length := by unfold rowsM at hb; simp at hb; exact hb.1
  repeat' (first | refine C.seq ?_ | refine C.region ?_ | refine L.nil ?_ | refine D.seq ?_ | refine L.move (k := ?_) | refine L.assign (k := ?_) | refine L.cm (c := ?_) | refine L.fieldAddr (c := ?_) | refine L.load1 0 (c := ?_) | refine L.loadA 0 (c := ?_) | refine L.extract (c := ?_) | refine C.no (h1 := ?_) | refine L.pickF (k := ?_) | refine L.want (k := ?_) | refine L.not (c := ?_) | refine C.block ?_ | refine C.skip ?_ | refine L.callQ kA (hpre := fun w hw => ⟨hr1.at hw, hra.at hw⟩) (k := ?_) | refine L.callQ kB (hpre := fun w hw => ⟨hr1.at hw, hrb.at hw⟩) (k := ?_) | refine L.lenR s1 (c := ?_))
  refine C.loop (α := Nat) (fun i => i ≤ bs.length ∧ ((bs.zip (ra.zip rb)).take i).all pubOne = true) (fun i => [(1, va), (2, ve), (31, vb), (32, .int .i64 bs.length), (33, .int .i64 i)]) (fun _ => [(pb, ob [.int .i64 regs, vb, vo] 25)]) (fun i => bs.length - i) 0
    (fun a w hs => hs.lessE rfl (lk_cons rfl (lk_cons rfl (lk_cons rfl (lk_cons rfl (lk_cons rfl (fun _ _ h => lk_nil h))))))) ⟨Nat.zero_le _, rfl⟩ ?_
  rintro i ⟨hi, ht⟩
  rcases Nat.lt_or_ge i bs.length with hlt | hge
  · have c2 : cm .lss (i : Int) bs.length = true := cm_lo (by omega)
    obtain ⟨b, hbb⟩ : ∃ b, bs[i]? = some b := ⟨_, List.getElem?_eq_getElem hlt⟩
    obtain ⟨r, hy⟩ : ∃ r, ra[i]? = some r := ⟨_, List.getElem?_eq_getElem (by omega)⟩
    obtain ⟨q, hq⟩ : ∃ q, rb[i]? = some q := ⟨_, List.getElem?_eq_getElem (by omega)⟩
    have hlv : i < ra.length := by omega
    have hlq : i < rb.length := by omega
    have o1 := hr1.2 (by omega)
    have o2 := hra.1.2 (by omega)
    have o3 := hrb.1.2 (by omega)
    have rr := hra.2 r (List.mem_of_getElem? hy)
    have rq := hrb.2 q (List.mem_of_getElem? hq)
    have hz := zip_at hbb (zip_at hy hq)
    obtain ⟨hA0, hal⟩ := flat_at encB_len hbb
    have hA := hA0.trans (encB_ex b)
    have c3 : ar .add .i64 (i : Int) 1 = ((i + 1 : Nat) : Int) := wrap_nat (by omega)
    have kE := equalU_S r.1 q.1 r.2 q.2 (hsm r (List.mem_of_getElem? hy))
    have hp : pubOne (b, r, q) = (b.sec || decide (r.2 = q.2)) := rfl
    cases hs : b.sec with
    | true =>
      rw [hs] at hA
      repeat' (first | refine C.seq ?_ | refine C.region ?_ | refine L.nil ?_ | refine D.seq ?_ | refine L.move (k := ?_) | refine L.assign (k := ?_) | refine L.cm (c := ?_) | refine L.ar (c := ?_) | refine L.fieldAddr (c := ?_) | refine L.load1 0 (c := ?_) | refine L.storeV 0 (c := ?_) | refine L.alloc (c := fun _ => ?_) | refine C.yes (h1 := ?_) | refine C.no (h1 := ?_) | refine L.pickF (k := ?_) | refine L.pass (k := ?_) | refine L.not (c := ?_) | refine C.block ?_ | refine D.blkNormal ?_ | refine C.skip ?_ | exact D.endsQ | refine QL.fin ?_ | refine C.quiet (h := ?_) | (refine QL.step (v := ?_) (by exact rfl) (by exact rfl) ?_ ?_; rotate_left) | refine L.indexR s1 hlt (c := ?_) | refine L.loadOA o1 (i := i * 3) (ho := rfl) (hi := hal) (hcs := hA) (c := ?_))
      exact D.then_ fun a1 w1 hst => ⟨i + 1, ⟨by omega, by rw [take_all hz, ht, hp, hs]; rfl⟩, by omega, hst.lessD 1 rfl (lk_cons rfl (lk_cons rfl (lk_cons rfl (lk_cons rfl (lk_cons rfl (fun _ _ h => lk_nil h))))))⟩
    | false =>
      rw [hs] at hA
      cases hd : decide (r.2 = q.2) with
      | true =>
        rw [hd] at kE
        repeat' (first | refine C.seq ?_ | refine C.region ?_ | refine L.nil ?_ | refine D.seq ?_ | refine L.move (k := ?_) | refine L.assign (k := ?_) | refine L.cm (c := ?_) | refine L.ar (c := ?_) | refine L.fieldAddr (c := ?_) | refine L.load1 0 (c := ?_) | refine L.storeV 0 (c := ?_) | refine L.alloc (c := fun _ => ?_) | refine C.yes (h1 := ?_) | refine C.no (h1 := ?_) | refine L.pickT (k := ?_) | refine L.want (k := ?_) | refine L.not (c := ?_) | refine C.block ?_ | refine D.blkNormal ?_ | refine C.skip ?_ | exact D.endsQ | refine QL.fin ?_ | refine C.quiet (h := ?_) | (refine QL.step (v := ?_) (by exact rfl) (by exact rfl) ?_ ?_; rotate_left) | refine L.indexR s1 hlt (c := ?_) | refine L.indexR sa hlv (c := ?_) | refine L.indexR sb hlq (c := ?_) | refine L.loadOA o1 (i := i * 3) (ho := rfl) (hi := hal) (hcs := hA) (c := ?_) | refine L.loadF o2 (enc_at (enc := Prod.fst) hy) (c := ?_) | refine L.loadF o3 (enc_at (enc := Prod.fst) hq) (c := ?_) | refine L.callQ kE (hpre := fun w hw => ⟨rr.at hw, rq.at hw⟩) (k := ?_))
        exact D.then_ fun a1 w1 hst => ⟨i + 1, ⟨by omega, by rw [take_all hz, ht, hp, hd]; simp⟩, by omega, hst.lessD 1 rfl (lk_cons rfl (lk_cons rfl (lk_cons rfl (lk_cons rfl (lk_cons rfl (fun _ _ h => lk_nil h))))))⟩
      | false =>
        rw [hd] at kE
        repeat' (first | refine C.seq ?_ | refine C.region ?_ | refine L.nil ?_ | refine D.seq ?_ | refine L.move (k := ?_) | refine L.assign (k := ?_) | refine L.cm (c := ?_) | refine L.fieldAddr (c := ?_) | refine L.load1 0 (c := ?_) | refine L.storeV 0 (c := ?_) | refine L.alloc (c := fun _ => ?_) | refine C.yes (h1 := ?_) | refine L.pickT (k := ?_) | refine L.want (k := ?_) | refine L.not (c := ?_) | refine C.block ?_ | refine C.ret ?_ | refine D.thenRet ?_ | refine D.blkRet ?_ | refine C.skip ?_ | exact D.endsQ | refine QL.fin ?_ | refine C.quiet (h := ?_) | (refine QL.step (v := ?_) (by exact rfl) (by exact rfl) ?_ ?_; rotate_left) | refine L.indexR s1 hlt (c := ?_) | refine L.indexR sa hlv (c := ?_) | refine L.indexR sb hlq (c := ?_) | refine L.loadOA o1 (i := i * 3) (ho := rfl) (hi := hal) (hcs := hA) (c := ?_) | refine L.loadF o2 (enc_at (enc := Prod.fst) hy) (c := ?_) | refine L.loadF o3 (enc_at (enc := Prod.fst) hq) (c := ?_) | refine L.callQ kE (hpre := fun w hw => ⟨rr.at hw, rq.at hw⟩) (k := ?_))
        (refine D.ret (vs := [_]) (RV.tmp rfl RV.nil) ?_; intro w' hw; exact Post.mk (is := []) hw List.nodup_nil rfl ⟨by rw [hfin, show pubM bs ra rb = false from all_no hz (by rw [hp, hs, hd]; rfl)]; rfl, rfl⟩)
  · have c2 : cm .lss (i : Int) bs.length = false := cm_lo' (by omega)
    repeat' (first | refine C.seq ?_ | refine C.region ?_ | refine L.nil ?_ | refine D.seq ?_ | refine L.assign (k := ?_) | refine L.cm (c := ?_) | refine C.no (h1 := ?_) | refine C.ret ?_ | refine C.exit ?_ | refine D.thenExit ?_ | refine D.blkExit ?_)
    rw [List.take_of_length_le (by simp; omega)] at ht
    (refine D.ret (vs := [_]) (RV.tmp rfl RV.nil) ?_; intro w' hw; exact Post.mk (is := []) hw List.nodup_nil rfl ⟨by rw [hfin, show pubM bs ra rb = true from ht]; rfl, rfl⟩)
end Go.Proofs.Ytkjlgapkcdcmgaa
