/- Listing: Inst: what it answers. Conditions: numbers are numbers of 64 bits; the table of powers as laid. -/
import Derived.Test.YtokcamgipnaoeaaGreatDoorLsC
set_option linter.unusedVariables false
set_option linter.unusedSimpArgs false
namespace Go.Proofs.YtokcamgipnaoeaaGreatDoor.Ls
open Go Go.RowKit SL Go.Shelf
attribute [local irreducible] SL.L SL.C SL.D SL.N SL.H SL.QL SL.QW SL.QP

section
variable {P : Program} {ops : Array Oper} {Q : Exit → Act → World → Prop} {s : St} {E : Env} {M : Hp} {rest : List Oper} {d t : Nat} {pos : String} {af : Array Edge}
theorem _root_.Go.Proofs.YtokcamgipnaoeaaGreatDoor.SL.L.fieldF {T i : Nat} {x : Operand} {u v : Value} (hF : ∀ w, (Instr.field T u i).run P w = .ok v w) (hn : Nat.blt d s.n = true := by exact rfl) (hx : ev E x = some u := by exact rfl)
    (c : L P ops Q rest s ((d, v) :: E) M) : L P ops Q (⟨some d, .field T x i, t, pos, af, none⟩ :: rest) s E M :=
  L.calm (S := fun ρ => Instr.field T (ρ x) i) hn (fun _ => rfl) (fun a w hs => by
    show (Instr.field T (a.eval x) i).run P w = _
    rw [hs.ev hx]; exact hF w) c
end
theorem i64_add {a b : Nat} (h : a + b ≤ 2000000) : ar .add .i64 (a : Int) (b : Int) = ((a + b : Nat) : Int) := wrap_nat (by omega)
theorem i64_sub {a b : Nat} (h : b ≤ a) (h2 : a ≤ 2000000) : ar .sub .i64 (a : Int) (b : Int) = ((a - b : Nat) : Int) := by
  show IntKind.i64.wrap _ = _
  rw [IntKind.wrap_i64]; omega
def Ins.chk (i : Ins) : Bool := Go.Proofs.YtokcamgipnaoeaaGreatDoor.chk i.op i.d i.s i.t i.mb i.mi i.ms i.md i.im
def Ins.ok (i : Ins) : Prop := I64' i.ms ∧ I64' i.md ∧ I64' i.im
def Opd.ok : Opd → Prop
  | .r _ => True
  | .n x => I64' x
  | .j x => I64' x
  | .m _ _ ms md => I64' ms ∧ I64' md
theorem opd1_ok {i : Ins} (h : i.ok) (c : UInt8) : (opd1 i c).ok := by
  obtain ⟨h1, h2, h3⟩ := h
  unfold opd1
  repeat' split
  all_goals first | trivial | exact ⟨h1, h2⟩ | exact h3
theorem check_S (i : Ins) (h : i.ok) : Ctr Tryz.prog 17 [i.val] [] tt (is (.int .i64 (errOf i.chk)) []) :=
  spec_n (fun w _ => check_any i.op i.d i.s i.t i.mb i.mi i.ms i.md i.im w h.2.1 h.2.2)
def nameT (op : Int) : List UInt8 := (fName op).data.toList
theorem nameT_tx (op : Int) : Value.string (fName op) = tx (nameT op) := by
  unfold nameT; cases fName op; simp
theorem of_S (op : Int) : Ctr Tryz.prog 41 [.int .i64 op] [] tt (is (fV op) []) := spec_n (fun w _ => of_any op w)
theorem iname_S (op : Int) : Ctr Tryz.prog 20 [.int .i64 op] [] tt (is (tx (nameT op)) []) := by
  have hO := of_S op
  rw [← nameT_tx]
  unfold fV at hO
  refine Ctr.enter Tryz.func20 Tryz.ntmps20 rfl rfl (fun w _ => ?_)
  have hF : ∀ w, (Instr.field 74 (.agg #[.string (fName op), .int .i64 (fIs op), .int .i64 (fReads op), .int .i64 (fWrites op)]) 0).run Tryz.prog w = .ok (.string (fName op)) w := fun w => by kernel_rfl
  repeat (first | refine C.seq ?_ | refine C.region ?_ | refine L.nil ?_ | refine D.seq ?_ | refine L.move (k := ?_) | refine L.assign (k := ?_) | refine C.ret ?_ | refine L.callQ (hO) (k := ?_) | refine L.fieldF hF (c := ?_))
  (refine D.ret (vs := [_]) (RV.tmp rfl RV.nil) ?_; intro w' hw; exact Post.mk (is := []) hw List.nodup_nil rfl ⟨rfl, rfl⟩)
theorem txt_S (x : Opd) (h : x.ok) : ∃ f u T, Fun Tryz.prog f ∧ x.val = .iface T u ∧ Ctr Tryz.prog f [u] [] Tab (is (tx x.txt) []) ∧ ∀ w, (method (Tryz.prog.types.size + Made.depth) T u "keysmith/listing.text").run Tryz.prog w = .ok (f, u) w := by
  cases x with
  | r n => exact ⟨130, _, _, inferInstance, rfl, by
      have hN := name_S n
      refine Ctr.enter Tryz.func130 Tryz.ntmps130 rfl rfl (fun w _ => ?_)
      repeat (first | refine C.seq ?_ | refine C.region ?_ | refine L.nil ?_ | refine D.seq ?_ | refine L.move (k := ?_) | refine L.assign (k := ?_) | refine C.ret ?_ | refine L.callQ (hN) (k := ?_))
      (refine D.ret (vs := [_]) (RV.tmp rfl RV.nil) ?_; intro w' hw; exact Post.mk (is := []) hw List.nodup_nil rfl ⟨rfl, rfl⟩), fun w => by kernel_rfl⟩
  | n n => exact ⟨133, _, _, inferInstance, rfl, number_S n h, fun w => by kernel_rfl⟩
  | j n => exact ⟨132, _, _, inferInstance, rfl, distance_S n h, fun w => by kernel_rfl⟩
  | m a b c d => exact ⟨131, _, _, inferInstance, rfl, place_S a b c d h.1 h.2, fun w => by kernel_rfl⟩
theorem join_S (v : Value) (xs : List (List UInt8)) (sep : List UInt8) (hN : xs.length ≤ 1000) (hl : (Lib.join xs sep).length ≤ 1000000) : Ctr Tryz.prog 21 [v, tx sep] [] (fun w => Rd w [] v xs.length (xs.map tx)) (is (tx (Lib.join xs sep)) []) := by
  refine spec_n (fun w hr => ?_)
  obtain ⟨⟨p, cap, rfl, hc, hp⟩, ho⟩ := hr
  rcases Nat.eq_zero_or_pos xs.length with h0 | hpos
  · have e : xs = [] := List.eq_nil_of_length_eq_zero h0
    subst e
    exact (Any.strings_Join_none Tryz.joinLay Tryz.joinExtra p cap ⟨sep.toArray⟩ w).mono (by rintro e w' ⟨rfl, rfl⟩; exact ⟨rfl, Below.refl _ _⟩)
  · have hO := ho hpos
    obtain ⟨b, o, hpe⟩ : ∃ b o, p = some ⟨b, o, none⟩ := ⟨_, _, hp hpos⟩
    subst hpe
    simp only [sB, sO] at hO
    have hm : (xs.map fun l => (⟨l.toArray⟩ : ByteArray)).map (·.data.toList) = xs := by rw [List.map_map]; simp [Function.comp_def]
    have hJ := Any.strings_Join Tryz.joinLay Tryz.joinExtra b o cap (xs.map fun l => (⟨l.toArray⟩ : ByteArray)) ⟨sep.toArray⟩ w (fun j x hj => by
      rw [List.getElem?_map] at hj
      obtain ⟨l, hl1, rfl⟩ := Option.map_eq_some_iff.1 hj
      exact hO.2.2 j _ (by rw [List.getElem?_map, hl1]; rfl)) hO.1 (by rw [List.length_map]; omega) (by rw [List.length_map]; exact hc) (by rw [hm]; show (Lib.join xs sep).length ≤ _; omega)
    rw [hm, List.length_map] at hJ
    exact hJ
theorem trim_S (s p : List UInt8) (h : s.length ≤ 1000000) : Ctr Tryz.prog 19 [tx s, tx p] [] tt (is (tx (Lib.trimSuffix s p)) []) :=
  spec_n (fun w _ => (Any.strings_TrimSuffix Tryz.trimLay ⟨s.toArray⟩ ⟨p.toArray⟩ w (by show s.length ≤ _; omega)).mono (by rintro e w' ⟨rfl, rfl⟩; exact ⟨rfl, Below.refl _ _⟩))
/-- An instruction's text. -/
def instT (i : Ins) : List UInt8 := Lib.trimSuffix (nameT i.op ++ [32] ++ Lib.join ((opds i).map Opd.txt) [44, 32]) [32]
def two (v u : Value) : Value → Hp → Prop := fun x B => x = shut [v, u] ∧ B = []
def instR (i : Ins) : Value → Hp → Prop := if i.chk then two (tx (instT i)) (.int .i64 0) else two (tx []) (.int .i64 2)
set_option maxRecDepth 100000 in
theorem nameT_len (op : Int) : (nameT op).length ≤ 6 := by
  unfold nameT fName
  split
  · rename_i h
    obtain ⟨n, rfl⟩ := Int.eq_ofNat_of_zero_le h.1
    have key : ∀ n : Nat, n < 34 → (strOf formsCells[n * 4]?).data.toList.length ≤ 6 := by decide +kernel
    exact key n (by omega)
  · simp
theorem txt_len (x : Opd) (h : x.ok) : x.txt.length ≤ 60 := by
  cases x with
  | r n => have := regT_len n; show (regT n).length ≤ _; omega
  | n n => have := Lib.itoa_length_le n h.1 h.2; show (Lib.itoa n).length ≤ _; omega
  | j n => have := distT_len n h; show (distT n).length ≤ _; omega
  | m a b c d =>
    have q1 := regT_len a
    have q2 := regT_len b
    have q3 := Lib.itoa_length_le c h.1.1 h.1.2
    have q4 := distT_len d h.2
    show (placeT a b c d).length ≤ _
    unfold placeT
    split <;> split <;> simp only [List.length_append, List.length_cons, List.length_nil] <;> omega
theorem join_len : ∀ (xs : List (List UInt8)) (n : Nat), (∀ x ∈ xs, x.length ≤ n) → (Lib.join xs [44, 32]).length ≤ xs.length * (n + 2)
  | [], n, _ => by simp [Lib.join, List.intercalate]
  | [x], n, h => by have := h x (by simp); rw [Lib.join_one, List.length_singleton]; omega
  | x :: y :: r, n, h => by
    have h1 := h x (by simp)
    have h2 := join_len (y :: r) n (fun z hz => h z (by simp [hz]))
    rw [Lib.join_cons] at h2 ⊢
    rw [Lib.joinTail, List.map_cons, List.flatten_cons]
    rw [Lib.joinTail] at h2
    simp only [List.length_append, List.length_cons, List.length_nil] at h2 ⊢
    rw [Nat.succ_mul]
    omega
set_option maxRecDepth 100000 in
set_option maxHeartbeats 16000000 in
theorem inst_S (i : Ins) (h : i.ok) : Ctr Tryz.prog 6 [i.val] [] Tab (instR i) := by
  have hC := check_S i h
  unfold instR
  refine Ctr.enter Tryz.func6 Tryz.ntmps6 rfl rfl (fun w ht => ?_)
  cases hc : i.chk with
  | false =>
    rw [hc] at hC
    have c1 : cm .neq (errOf false) 0 = true := rfl
    simp only [Bool.false_eq_true, if_false]
    repeat (first | refine C.seq ?_ | refine C.region ?_ | refine L.nil ?_ | refine D.seq ?_ | refine L.move (k := ?_) | refine L.assign (k := ?_) | refine L.cm (c := ?_) | refine L.loadA 0 (c := ?_) | refine L.box (c := fun _ => ?_) | refine C.yes (h1 := ?_) | refine C.ret ?_ | refine D.thenRet ?_ | refine L.callQ (hC) (k := ?_))
    exact D.ret (vs := [_, _]) (RV.tmp rfl (RV.tmp rfl RV.nil)) (fun w' hw => Post.mk (is := []) hw (by decide) rfl ⟨rfl, rfl⟩)
  | true =>
    rw [hc] at hC
    have c1 : cm .neq (errOf true) 0 = false := rfl
    simp only [if_true]
    have hO := operands_S i
    have hoks : ∀ x ∈ opds i, x.ok := fun x hx => by
      obtain ⟨c, _, rfl⟩ := List.mem_map.1 hx
      exact opd1_ok h c
    have hol : (opds i).length ≤ 3 := by unfold opds; rw [List.length_map]; exact shape_len i.op
    have hnm := iname_S i.op
    have hnl := nameT_len i.op
    repeat (first | refine C.seq ?_ | refine C.region ?_ | refine L.nil ?_ | refine D.seq ?_ | refine L.move (k := ?_) | refine L.assign (k := ?_) | refine L.cm (c := ?_) | refine L.loadA 0 (c := ?_) | refine L.box (c := fun _ => ?_) | refine C.no (h1 := ?_) | refine C.skip ?_ | refine L.callQ (hC) (k := ?_))
    rename_i bb
    refine L.callP [] hO (hpre := fun _ _ => trivial) (k := ?_)
    rintro u B ⟨y, hG, rfl, rfl⟩
    rw [hdrop_nil]
    simp only [shut]
    refine L.base (osC 45 y [] ++ [(bb, ob i.cells 25)]) (M' := []) (List.append_nil _).symm (fun w1 h1 => ?_)
    have r1 : Rd w1 [] (osV (opds i).length y) (opds i).length (vals (opds i)) := hG.rdm (T := 45) h1 (fun x hx => List.mem_append_left _ hx)
    have oB : Old w1 [] bb 0 i.cells := Old.own (h1.holds (bb, ob i.cells 25) (by simp)) (by simp) i.cells.length (by simp)
    have h1' : At w [] ((osC 45 y [] ++ [(bb, ob i.cells 25)]) ++ []) w1 := by rw [List.append_nil]; exact h1
    obtain ⟨vo, hvo⟩ : ∃ vo, vo = osV (opds i).length y := ⟨_, rfl⟩
    rw [← hvo] at r1 ⊢
    have ht1 : Tab w1 := ht.bel h1
    have sv := r1.1
    have hit : instT i = Lib.trimSuffix (nameT i.op ++ [32] ++ Lib.join ((opds i).map Opd.txt) [44, 32]) [32] := rfl
    rw [hit]
    generalize opds i = l at *
    repeat (first | refine L.nil ?_ | refine L.move (k := ?_) | refine C.block ?_ | refine D.seqR (h := ?_) | refine L.lenR sv (c := ?_))
    refine C.loop (α := Nat × OS) (fun g => g.1 ≤ l.length ∧ osG 1 g.1 (((l.take g.1).map Opd.txt).map tx) g.2) (fun g => [(1, .pointer (some ⟨bb, 0, none⟩)), (5, osV g.1 g.2), (14, vo), (15, .int .i64 l.length), (16, .int .i64 (g.1 : Int))]) (fun g => osC 9 g.2 []) (fun g => l.length - g.1) (0, none)
      (fun a w hs => hs.lessE rfl (lk_cons rfl (lk_cons rfl (lk_cons rfl (lk_cons rfl (lk_cons rfl (fun _ _ h => lk_nil h))))))) ⟨Nat.zero_le _, osG.nil⟩ ?_
    rintro ⟨k, z⟩ ⟨hk, hZ⟩
    simp only at hk hZ
    dsimp only
    rcases Nat.lt_or_ge k l.length with hlt | hge
    · have d1 : cm .lss (k : Int) l.length = true := cm_lo (by omega)
      have d2 : ar .add .i64 (k : Int) 1 = ((k + 1 : Nat) : Int) := i64_add (b := 1) (by omega)
      obtain ⟨x, hx⟩ : ∃ x, l[k]? = some x := ⟨_, List.getElem?_eq_getElem hlt⟩
      obtain ⟨f, u, T, hfun, hxv, hxS, hxm⟩ := txt_S x (hoks x (List.mem_of_getElem? hx))
      have hv : (vals l)[k]? = some (.iface T u) := by unfold vals; rw [List.getElem?_map, hx, ← hxv]; rfl
      have o1 := r1.2 (by omega)
      have htk : ((l.take (k + 1)).map Opd.txt).map tx = ((l.take k).map Opd.txt).map tx ++ [tx x.txt] := by rw [List.take_add_one, hx]; simp
      have hm1 : k + 1 ≤ maxLen := by unfold maxLen; omega
      repeat (first | refine C.seq ?_ | refine C.region ?_ | refine L.nil ?_ | refine D.seq ?_ | refine L.move (k := ?_) | refine L.assign (k := ?_) | refine L.cm (c := ?_) | refine C.yes (h1 := ?_) | refine C.block ?_ | refine C.skip ?_ | refine L.buildS (c := fun _ => ?_) | refine L.indexR sv hlt (c := ?_) | refine L.loadF o1 hv (ho := by simp) (c := ?_) | refine L.meth (vs := []) [] hxm hxS (hxs := rfl) (hpre := fun _ hw => ht1.bel hw) (hM := by rw [hdrop_nil]) (k := ?_))
      rename_i nb
      refine L.appendU [_] (L2 := []) (y := z) (m := k) (u := .slice (some ⟨nb, 0, none⟩) 1 1) (k := 1) (news := [tx x.txt]) hZ rfl (fun w hw => Rd.own (hw.holds _ List.mem_cons_self) (by simp) (Nat.le_refl _) 1 rfl) rfl (by intro v hv; obtain rfl := List.mem_singleton.1 hv; rfl) hm1 (by omega) (c := fun y' hG' _ => ?_)
      simp only [List.cons_append, List.nil_append]
      repeat (first | refine C.region ?_ | refine L.nil ?_ | refine L.move (k := ?_) | refine L.assign (k := ?_) | refine L.ar (c := ?_) | refine D.blkNormal ?_ | refine D.seqR (h := ?_))
      exact D.then_ fun a1 w1 hs => ⟨(k + 1, y'), ⟨hlt, by rw [htk]; exact hG'⟩, by simp only; omega, hs.lessD 1 rfl (lk_cons rfl (lk_cons rfl (lk_cons rfl (lk_cons rfl (lk_cons rfl (fun _ _ h => lk_nil h))))))⟩
    · have d1 : cm .lss (k : Int) l.length = false := cm_lo' (by omega)
      obtain rfl : k = l.length := by omega
      rw [List.take_length] at hZ
      have hjl := join_len (l.map Opd.txt) 60 (fun x hx => by obtain ⟨o, ho, rfl⟩ := List.mem_map.1 hx; exact txt_len o (hoks o ho))
      rw [List.length_map] at hjl
      have hjn : (Lib.join (l.map Opd.txt) [44, 32]).length ≤ 1000 := by omega
      have hJ := join_S (osV l.length z) (l.map Opd.txt) [44, 32] (by rw [List.length_map]; omega) (by omega)
      have hT := trim_S (nameT i.op ++ [32] ++ Lib.join (l.map Opd.txt) [44, 32]) [32] (by simp only [List.length_append, List.length_cons, List.length_nil]; omega)
      rw [List.length_map] at hJ
      have g0 : i.cells[0]? = some (.int .i64 i.op) := rfl
      repeat (first | refine C.seq ?_ | refine C.region ?_ | refine L.nil ?_ | refine D.seq ?_ | refine L.move (k := ?_) | refine L.assign (k := ?_) | refine L.cm (c := ?_) | refine L.fieldAddr (c := ?_) | refine C.no (h1 := ?_) | refine C.ret ?_ | refine C.exit ?_ | refine D.thenExit ?_ | refine D.blkExit ?_ | refine D.seqR (h := ?_) | refine L.callQ (hnm) (k := ?_) | refine L.loadF oB g0 (ho := rfl) (c := ?_) | refine L.callQ hJ (hpre := fun _ hw => hZ.rdm (T := 9) hw (fun x hx => hx)) (k := ?_) | refine L.callQ (hT) (k := ?_) | refine L.txAdd (c := ?_))
      exact D.ret (vs := [_, _]) (RV.tmp rfl (RV.tmp rfl RV.nil)) (fun w' hw => Post.mk (is := []) (At.back h1' hw) (by decide) rfl ⟨rfl, rfl⟩)
end Go.Proofs.YtokcamgipnaoeaaGreatDoor.Ls
