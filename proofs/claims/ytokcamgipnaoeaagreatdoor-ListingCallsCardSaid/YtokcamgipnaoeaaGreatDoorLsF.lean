/- Listing: the library's readers of numbers and cutters of texts; registers, inside, read: what they answer. Conditions: the library's tables and errors as laid. -/
import Derived.Test.YtokcamgipnaoeaaGreatDoorLsE
import Derived.Shelf.Strconv.ErrVarParseInt
import Derived.Shelf.Strconv.ErrVarAll
import Derived.Shelf.Strings.Prefix
import Derived.Lib.SmallJoins
import Derived.WalkSmall
set_option linter.unusedVariables false
set_option linter.unusedSimpArgs false
namespace Go.Proofs.YtokcamgipnaoeaaGreatDoor.Ls
open Go Go.RowKit SL Go.Shelf
attribute [local irreducible] SL.L SL.C SL.D SL.N SL.H SL.QL SL.QW SL.QP

section
variable {P : Program} {Q : Exit → Act → World → Prop} {s : St} {E : Env} {M : Hp} {x y : Code}
theorem _root_.Go.Proofs.YtokcamgipnaoeaaGreatDoor.SL.C.joinK {α : Type} (G : α → Prop) (EI : α → Env) (MI : α → Hp) (h : C P x (Exit.then (fun a w => ∃ z, G z ∧ Sat s (EI z) (MI z) a w) Q) s E M)
    (k : ∀ z, G z → C P y Q s (EI z) (MI z)) : C P x (Exit.then (y.wpIn (fen s.ro) 0 P Q) Q) s E M := by
  unfold SL.C at h ⊢
  intro a w hs
  refine wpIn_mono (h a w hs) ?_
  intro e a' w' hq
  cases e with
  | normal => obtain ⟨z, hz, hsz⟩ := hq; have := k z hz; unfold SL.C at this; exact this a' w' hsz
  | exit id => exact hq
  | goto l => exact hq
  | ret => exact hq
  | panic ch => exact hq
  | outgrown => exact hq
end
section
variable {P : Program} {ops : Array Oper} {Q : Exit → Act → World → Prop} {s : St} {E : Env} {M : Hp} {rest : List Oper} {d t : Nat} {pos : String} {af : Array Edge}
/-- An error against nil. -/
def nilE : Value → Option Bool
  | .nilIface => some true
  | .iface _ _ => some false
  | _ => none
theorem _root_.Go.Proofs.YtokcamgipnaoeaaGreatDoor.SL.L.eqNilI {T T' : TypeId} {ms : Array (String × TypeId)} [hu : Und P T (.interface ms)] {x : Operand} {v : Value} {b : Bool} (hn : Nat.blt d s.n = true := by exact rfl) (hx : ev E x = some v := by exact rfl) (hv : nilE v = some b := by exact rfl)
    (k : L P ops Q rest s ((d, .bool b) :: E) M) : L P ops Q (⟨some d, .binOp .eql T x (.const .nilIface) T', t, pos, af, none⟩ :: rest) s E M :=
  L.val hn (fun a w hs => ⟨w, by
    refine run_value ?_
    rw [hs.ev hx]
    show Sem.run P (do eqGuard .eql T x (.const .nilIface) v .nilIface; binOp .eql T v .nilIface) w = _
    rw [run_bind_ok (x := ()) (w' := w) (by cases v <;> first | (cases hv; done) | (cases x <;> rfl))]
    cases v <;> first | (cases hv; done) | skip
    all_goals
      (cases hv
       show Sem.run P (do pure (Value.bool (← Op.equalIn (9999 + 1) T _ .nilIface))) w = _
       unfold Op.equalIn
       refine run_bind_ok (w' := w) ?_
       rw [run_bind_ok und_run]
       rfl), hs.at_⟩) k
theorem _root_.Go.Proofs.YtokcamgipnaoeaaGreatDoor.SL.L.neNilI {T T' : TypeId} {ms : Array (String × TypeId)} [hu : Und P T (.interface ms)] {x : Operand} {v : Value} {b : Bool} (hn : Nat.blt d s.n = true := by exact rfl) (hx : ev E x = some v := by exact rfl) (hv : nilE v = some b := by exact rfl)
    (k : L P ops Q rest s ((d, .bool (!b)) :: E) M) : L P ops Q (⟨some d, .binOp .neq T x (.const .nilIface) T', t, pos, af, none⟩ :: rest) s E M :=
  L.val hn (fun a w hs => ⟨w, by
    refine run_value ?_
    rw [hs.ev hx]
    show Sem.run P (do eqGuard .neq T x (.const .nilIface) v .nilIface; binOp .neq T v .nilIface) w = _
    rw [run_bind_ok (x := ()) (w' := w) (by cases v <;> first | (cases hv; done) | (cases x <;> rfl))]
    cases v <;> first | (cases hv; done) | skip
    all_goals
      (cases hv
       show Sem.run P (do pure (Value.bool (!(← Op.equalIn (9999 + 1) T _ .nilIface)))) w = _
       unfold Op.equalIn
       refine run_bind_ok (x := _) (w' := w) ?_
       rw [run_bind_ok und_run]
       rfl), hs.at_⟩) k
end
theorem spec_e {f : Nat} {args : List Value} {R : Value → Hp → Prop} {pre : World → Prop} (h : ∀ w, pre w → Calls Tryz.prog f args.toArray w fun e w' => ∃ v, e = .returned v ∧ R v [] ∧ Below w.heap.size w w') : Ctr Tryz.prog f args [] pre R := by
  intro w _ _ hp
  refine (h w hp).mono ?_
  rintro e w' ⟨v, rfl, hr, hb⟩
  exact ⟨v, [], rfl, hr, Keeps.of_below hb _, by simp [keys], by simp, by simp⟩
/-- What is laid: the tables, the two errors, the word that bytealg holds. -/
def Lw (w : World) : Prop := Tab w ∧ Utf w ∧ (∃ t p, w.var? Tryz.prog "strconv.ErrSyntax" = some #[.iface t p]) ∧ (∃ t p, w.var? Tryz.prog "strconv.ErrRange" = some #[.iface t p]) ∧ ∃ m, w.cell? ⟨Tryz.cutLay_ren.g 1, 0, none⟩ = some (.int .i64 m)
theorem var_lt {w : World} {n : String} {g : Nat} {cs : Array Value} (hg : Tryz.prog.globalNamed n = some g) (h : w.var? Tryz.prog n = some cs) : g < w.heap.size := by
  unfold World.var? at h
  rw [hg] at h
  rcases Nat.lt_or_ge g w.heap.size with h1 | h1
  · exact h1
  · simp [Array.getElem?_eq_none h1] at h
theorem Lw.bel {w w' : World} {M : Hp} (h : Lw w) (hw : At w [] M w') : Lw w' := by
  obtain ⟨h1, h2, ⟨t1, p1, h3⟩, ⟨t2, p2, h4⟩, m, h5⟩ := h
  have hb := hw.keeps.below
  have g1 : Tryz.prog.globalNamed "strconv.ErrSyntax" = some 1 := by kernel_rfl
  have g2 : Tryz.prog.globalNamed "strconv.ErrRange" = some 2 := by kernel_rfl
  refine ⟨h1.bel hw, h2.bel hw, ⟨t1, p1, var?_below hb g1 (var_lt g1 h3) h3⟩, ⟨t2, p2, var?_below hb g2 (var_lt g2 h4) h4⟩, m, ?_⟩
  rw [← h5]
  refine hb.cell ?_
  rcases Nat.lt_or_ge (Tryz.cutLay_ren.g 1) w.heap.size with h' | h'
  · exact h'
  · simp [World.cell?, Array.getElem?_eq_none h'] at h5
theorem below_bw (w : World) (e : TypeId) (s : ByteArray) (w' : World) (h : w' = w ∨ ∃ t, w' = Lib.bytesWorld w e t) : Below w.heap.size w w' := by
  rcases h with rfl | ⟨t, rfl⟩
  · exact Below.refl _ _
  · exact Go.Joins.below_bytesWorld _ _ _ _ (Nat.le_refl _)
theorem parseY_S (l : List UInt8) (h : l.length ≤ 1000000) (hp : parOk l = true) : Ctr Tryz.prog 54 [tx l, .int .i64 10, .int .i64 64] [] tt (is (shut [.int .i64 (parI l), .nilIface]) []) := by
  refine spec_n (fun w _ => ?_)
  unfold parOk at hp
  unfold parI
  split at hp
  · rename_i v hv
    rw [hv]
    exact (Any.strconv_ParseInt_10_at64_ok Tryz.parseLay ⟨l.toArray⟩ (by show l.length ≤ _; omega) v hv w).mono (by rintro e w' ⟨rfl, hb⟩; exact ⟨rfl, below_bw w _ ⟨l.toArray⟩ w' hb⟩)
  · cases hp
theorem parseN_S (l : List UInt8) (h : l.length ≤ 1000000) (hp : parOk l = false) : Ctr Tryz.prog 54 [tx l, .int .i64 10, .int .i64 64] [] Lw (fun u B => ∃ t p, u = shut [.int .i64 (parI l), .iface t p] ∧ B = []) := by
  refine spec_e (fun w hw => ?_)
  obtain ⟨_, _, ⟨t1, p1, h3⟩, ⟨t2, p2, h4⟩, _⟩ := hw
  unfold parOk at hp
  unfold parI
  cases hv : Lib.parseIntB 64 l
  · rw [hv] at hp; cases hp
  · exact (Any.strconv_ParseInt_10_at64_syntax_var Tryz.parseLay ⟨l.toArray⟩ (by show l.length ≤ _; omega) hv t1 p1 w h3).mono (by rintro e w' ⟨N, rfl, _, _, hb⟩; exact ⟨_, rfl, ⟨_, _, rfl, rfl⟩, hb⟩)
  · exact (Any.strconv_ParseInt_10_at64_range_var Tryz.parseLay ⟨l.toArray⟩ (by show l.length ≤ _; omega) hv t2 p2 w h4).mono (by rintro e w' ⟨N, rfl, _, _, hb⟩; exact ⟨_, rfl, ⟨_, _, rfl, rfl⟩, hb⟩)
theorem atoi_S (l : List UInt8) (h : l.length ≤ 1000000) : Ctr Tryz.prog 68 [tx l] [] Lw (fun u B => ∃ e, u = shut [.int .i64 (atoV l), e] ∧ B = []) := by
  refine spec_e (fun w hw => ?_)
  obtain ⟨_, _, ⟨t1, p1, h3⟩, ⟨t2, p2, h4⟩, _⟩ := hw
  unfold atoV
  cases hv : Lib.atoiAll l
  · exact (Any.strconv_Atoi_ok Tryz.atoiLay ⟨l.toArray⟩ (by show l.length ≤ _; omega) _ hv w).mono (by rintro e w' ⟨rfl, hb⟩; exact ⟨_, rfl, ⟨_, rfl, rfl⟩, below_bw w _ ⟨l.toArray⟩ w' hb⟩)
  · exact (Any.strconv_Atoi_syntax_var Tryz.atoiLay ⟨l.toArray⟩ (by show l.length ≤ _; omega) hv t1 p1 w h3).mono (by rintro e w' ⟨N, rfl, _, _, hb⟩; exact ⟨_, rfl, ⟨_, rfl, rfl⟩, hb⟩)
  · exact (Any.strconv_Atoi_range_var Tryz.atoiLay ⟨l.toArray⟩ (by show l.length ≤ _; omega) hv t2 p2 w h4).mono (by rintro e w' ⟨N, rfl, _, _, hb⟩; exact ⟨_, rfl, ⟨_, rfl, rfl⟩, hb⟩)
theorem cut_S (l p : List UInt8) (h : l.length ≤ 1000000) : Ctr Tryz.prog 30 [tx l, tx p] [] Lw (is (shut [tx (Lib.cut l p).1, tx (Lib.cut l p).2.1, .bool (Lib.cut l p).2.2]) []) := by
  refine spec_n (fun w hw => ?_)
  obtain ⟨_, _, _, _, m, hm⟩ := hw
  exact (Any.strings_Cut { Tryz.cutLay with } ⟨l.toArray⟩ ⟨p.toArray⟩ m w (by show l.length < _; omega) hm).mono (by rintro e w' ⟨rfl, n, rfl⟩; exact ⟨rfl, Go.Joins.below_draws _ _ _⟩)
theorem prefix_S (l p : List UInt8) : Ctr Tryz.prog 51 [tx l, tx p] [] tt (is (.bool (Lib.hasPrefix l p)) []) :=
  spec_n (fun w _ => (Any.strings_HasPrefix Tryz.prefixLay ⟨l.toArray⟩ ⟨p.toArray⟩ w).mono (by rintro e w' ⟨rfl, rfl⟩; exact ⟨rfl, Below.refl _ _⟩))
theorem suffix_S (l p : List UInt8) (h : l.length ≤ 1000000) : Ctr Tryz.prog 52 [tx l, tx p] [] tt (is (.bool (Lib.hasSuffix l p)) []) :=
  spec_n (fun w _ => (Any.strings_HasSuffix Tryz.suffixLay ⟨l.toArray⟩ ⟨p.toArray⟩ w (by show l.length ≤ _; omega)).mono (by rintro e w' ⟨rfl, rfl⟩; exact ⟨rfl, Below.refl _ _⟩))
theorem seq_tx (a b : List UInt8) : seq (⟨a.toArray⟩ : ByteArray) ⟨b.toArray⟩ = decide (a = b) := by
  unfold seq
  rw [ByteArray.toList_eq, ByteArray.toList_eq, Bool.eq_iff_iff]
  simp
theorem sne_tx (a b : List UInt8) : sne (⟨a.toArray⟩ : ByteArray) ⟨b.toArray⟩ = !decide (a = b) := by
  have := seq_tx a b
  unfold seq at this
  unfold sne
  rw [this]
/-- The register of a name; -1: there is none. -/
def regF (l : List UInt8) : Nat → Nat → Int
  | 0, _ => -1
  | f + 1, r => if regT (r : Int) = l then (r : Int) else regF l f (r + 1)
def regOf (l : List UInt8) : Int := regF l 16 0
set_option maxRecDepth 100000 in
theorem registers_S (l : List UInt8) : Ctr Tryz.prog 50 [tx l] [] tt (is (.int .i64 (regOf l)) []) := by
  refine Ctr.enter Tryz.func50 Tryz.ntmps50 rfl rfl (fun w _ => ?_)
  repeat (first | refine C.seq ?_ | refine C.region ?_ | refine L.nil ?_ | refine D.seq ?_ | refine L.assign (k := ?_) | refine C.block ?_)
  refine C.loop (α := Nat) (fun r => r ≤ 16 ∧ regOf l = regF l (16 - r) r) (fun r => [(0, tx l), (3, .int .i64 (r : Int))]) (fun _ => []) (fun r => 16 - r) 0
    (fun a w hs => hs.lessE rfl (lk_cons rfl (lk_cons rfl (fun _ _ h => lk_nil h)))) ⟨by omega, rfl⟩ ?_
  rintro r ⟨hr, hR⟩
  dsimp only
  rcases Nat.lt_or_ge r 16 with h | h
  · have c1 : cm .leq (r : Int) 15 = true := cm_le (by omega)
    have d1 : ar .add .i64 (r : Int) 1 = ((r + 1 : Nat) : Int) := i64_add (b := 1) (by omega)
    have hN := name_S (r : Int)
    have hs := seq_tx (regT (r : Int)) l
    obtain ⟨f, hf⟩ : ∃ f, 16 - r = f + 1 := ⟨15 - r, by omega⟩
    have hf2 : 16 - (r + 1) = f := by omega
    rw [hf] at hR
    by_cases he : regT (r : Int) = l
    · rw [decide_eq_true he] at hs
      have hR2 : regOf l = (r : Int) := by rw [hR]; unfold regF; rw [if_pos he]
      rw [hR2]
      repeat (first | refine C.seq ?_ | refine C.region ?_ | refine L.nil ?_ | refine D.seq ?_ | refine L.move (k := ?_) | refine L.assign (k := ?_) | refine L.cm (c := ?_) | refine C.yes (h1 := ?_) | refine L.strEq (c := ?_) | refine C.block ?_ | refine C.ret ?_ | refine D.thenRet ?_ | refine D.blkRet ?_ | refine C.skip ?_ | refine L.callQ (hN) (k := ?_))
      (refine D.ret (vs := [_]) (RV.tmp rfl RV.nil) ?_; intro w' hw; exact Post.mk (is := []) hw List.nodup_nil rfl ⟨rfl, rfl⟩)
    · rw [decide_eq_false he] at hs
      have hR2 : regOf l = regF l f (r + 1) := by rw [hR]; conv => lhs; unfold regF
                                                  rw [if_neg he]
      repeat (first | refine C.seq ?_ | refine C.region ?_ | refine L.nil ?_ | refine D.seq ?_ | refine L.move (k := ?_) | refine L.assign (k := ?_) | refine L.cm (c := ?_) | refine L.ar (c := ?_) | refine C.yes (h1 := ?_) | refine C.no (h1 := ?_) | refine L.strEq (c := ?_) | refine C.block ?_ | refine D.blkNormal ?_ | refine C.skip ?_ | refine L.callQ (hN) (k := ?_))
      exact D.then_ fun a1 w1 hs => ⟨r + 1, ⟨by omega, by rw [hf2]; exact hR2⟩, by omega, hs.lessE rfl (lk_cons rfl (lk_cons rfl (fun _ _ h => lk_nil h)))⟩
  · obtain rfl : r = 16 := by omega
    have c1 : cm .leq ((16 : Nat) : Int) 15 = false := rfl
    have hR2 : regOf l = -1 := hR
    rw [hR2]
    repeat (first | refine C.seq ?_ | refine C.region ?_ | refine L.nil ?_ | refine D.seq ?_ | refine L.move (k := ?_) | refine L.assign (k := ?_) | refine L.cm (c := ?_) | refine C.no (h1 := ?_) | refine C.ret ?_ | refine C.exit ?_ | refine D.thenExit ?_ | refine D.blkExit ?_ | refine D.seqR (h := ?_))
    (refine D.ret (vs := [_]) (RV.tmp rfl RV.nil) ?_; intro w' hw; exact Post.mk (is := []) hw List.nodup_nil rfl ⟨rfl, rfl⟩)
theorem cut_len1 (l p : List UInt8) : (Lib.cut l p).1.length ≤ l.length := by
  unfold Lib.cut; split
  · rw [List.length_take]; omega
  · exact Nat.le_refl _
theorem cut_len2 (l p : List UInt8) : (Lib.cut l p).2.1.length ≤ l.length := by
  unfold Lib.cut; split
  · rw [List.length_drop]; omega
  · exact Nat.zero_le _
theorem cut_len3 (l p : List UInt8) (hp : 1 ≤ p.length) (h : (Lib.cut l p).2.2 = true) : (Lib.cut l p).2.1.length < l.length := by
  unfold Lib.cut at h ⊢
  split at h
  · rename_i h0
    rw [if_pos h0, List.length_drop]
    have := Lib.index_room l p h0
    omega
  · cases h
/-- What stands between brackets. -/
def insA (l : List UInt8) (at_ : Int) : Int × List UInt8 := if 0 < at_ ∧ parOk (l.drop at_.toNat) = true then (parI (l.drop at_.toNat), l.take at_.toNat) else (0, l)
def insB (s : List UInt8) : Int × Int × Int := if (Lib.cut s [43]).2.2 then (regOf (Lib.cut s [43]).1, regOf (Lib.cut (Lib.cut s [43]).2.1 [42]).2.1, atoV (Lib.cut (Lib.cut s [43]).2.1 [42]).1) else (regOf (Lib.cut s [43]).1, -1, 1)
def insM (l : List UInt8) : Value := memV (insB (insA l (lastS l l.length)).2).1 (insB (insA l (lastS l l.length)).2).2.1 (insB (insA l (lastS l l.length)).2).2.2 (insA l (lastS l l.length)).1
set_option maxRecDepth 100000 in
set_option maxHeartbeats 8000000 in
theorem inside_S (l : List UInt8) (hl : l.length ≤ 1000000) : Ctr Tryz.prog 53 [tx l] [] Lw (is (insM l) []) := by
  have hLA := lastAny_S l hl
  obtain ⟨ha1, ha2⟩ := lastS_range l l.length
  unfold insM
  generalize lastS l l.length = at_ at *
  refine Ctr.enter Tryz.func53 Tryz.ntmps53 rfl rfl (fun w hx => ?_)
  repeat (first | refine C.seq ?_ | refine C.region ?_ | refine L.nil ?_ | refine D.seq ?_ | refine L.move (k := ?_) | refine L.assign (k := ?_) | refine L.cm (c := ?_) | refine L.fieldAddr (c := ?_) | refine L.storeV 0 (c := ?_) | refine L.alloc (c := fun _ => ?_) | refine L.callQ hLA (hpre := fun _ hw => (hx.bel hw).2.1) (k := ?_))
  rename_i bb
  refine C.joinK (fun z : Int × List UInt8 => z = insA l at_) (fun z => [(0, tx z.2), (2, .pointer (some ⟨bb, 0, none⟩))]) (fun z => [(bb, ob [.int .i64 0, .int .i64 (-1), .int .i64 1, .int .i64 z.1] 79)]) ?_ ?_
  · refine C.condE (h1 := fun hc => ?_) (h2 := fun hc => ?_)
    · have hpos : 0 < at_ := by have : decide (at_ > 0) = true := hc; simpa using this
      obtain ⟨n, hn⟩ := Int.eq_ofNat_of_zero_le (Int.le_of_lt hpos)
      rw [hn]
      rw [hn] at hpos ha2
      have hdl : (l.drop n).length ≤ 1000000 := by rw [List.length_drop]; omega
      have hcut : (l.drop n).take (l.length - n) = l.drop n := by rw [List.take_of_length_le]; rw [List.length_drop]; omega
      cases hp : parOk (l.drop n) with
      | true =>
        have hI : insA l (n : Int) = (parI (l.drop n), l.take n) := by unfold insA; rw [Int.toNat_natCast, if_pos ⟨hpos, hp⟩]
        rw [hI]
        have hP := parseY_S (l.drop n) hdl hp
        repeat (first | refine L.txCut (a := l) (lo := n) (hi := l.length) (by omega) (Nat.le_refl _) hcut (c := ?_) | refine L.callQ (hP) (k := ?_) | refine L.eqNilI (k := ?_) | refine C.seq ?_ | refine C.region ?_ | refine L.nil ?_ | refine D.seq ?_ | refine L.move (k := ?_) | refine L.assign (k := ?_) | refine L.extract (c := ?_) | refine C.yes (h1 := ?_))
        refine C.make [] (by kernel_rfl) (h := ?_)
        iterate 5 ((refine QP.quiet (v := ?_) (by exact rfl) (by exact rfl) (fun w4 g4 => ?_) ?_; rotate_left); repeat (first | refine L.txCut (a := l) (lo := 0) (hi := n) (Nat.zero_le _) (by omega) (by rw [List.drop_zero, Nat.sub_zero]) (c := ?_) | refine L.nil ?_ | refine L.move (k := ?_) | refine L.fieldAddr (c := ?_) | exact D.endsQ | exact D.endsQ))
        refine QP.mk0 [(bb, ob [.int .i64 0, .int .i64 (-1), .int .i64 1, .int .i64 0] 79)] (fun F B => F = [] ∧ B = [(bb, ob [.int .i64 0, .int .i64 (-1), .int .i64 1, .int .i64 (parI (l.drop n))] 79)]) (h := fun w4 g4 => ?_) (k := ?_)
        · simp only [List.cons_append, List.nil_append]
          repeat (first | refine L.nil ?_ | refine L.storeV 0 (c := ?_))
          exact D.endsP0 [] [(bb, ob [.int .i64 0, .int .i64 (-1), .int .i64 1, .int .i64 (parI (l.drop n))] 79)] (hM := rfl) (hF := fun _ _ h => by cases h) (hR := ⟨rfl, rfl⟩)
        iterate 1 ((refine QP.quiet (v := ?_) (by exact rfl) (by exact rfl) (fun w4 g4 => ?_) ?_; rotate_left); repeat (first | refine L.nil ?_ | refine L.assign (k := ?_) | exact D.endsQ | exact D.endsQ))
        refine QP.fin1 [none, none, none, none, none, some [], none] 5 (nds := [[], [], [], [], [], [], []]) (hM := List.Perm.refl _) (k := ?_)
        rintro F B ⟨rfl, rfl⟩
        simp only [List.cons_append, List.nil_append]
        repeat (first | fail)
        exact D.then_ fun a1 w1 hs => ⟨_, rfl, hs.lessE rfl (lk_cons rfl (lk_cons rfl (fun _ _ h => lk_nil h)))⟩
      | false =>
        have hI : insA l (n : Int) = (0, l) := by unfold insA; rw [Int.toNat_natCast, if_neg (fun h => by rw [hp] at h; cases h.2)]
        rw [hI]
        have hP := parseN_S (l.drop n) hdl hp
        repeat (first | refine L.txCut (a := l) (lo := n) (hi := l.length) (by omega) (Nat.le_refl _) hcut (c := ?_) | refine L.eqNilI (k := ?_) | refine C.seq ?_ | refine C.region ?_ | refine L.move (k := ?_))
        refine L.callP [] hP (hpre := fun _ hw => hx.bel hw) (k := ?_)
        rintro u B ⟨t, p, rfl, rfl⟩
        rw [hdrop_nil, List.nil_append]
        repeat (first | refine L.eqNilI (k := ?_) | refine C.seq ?_ | refine C.region ?_ | refine L.nil ?_ | refine D.seq ?_ | refine L.move (k := ?_) | refine L.assign (k := ?_) | refine L.extract (c := ?_) | refine C.no (h1 := ?_) | refine C.skip ?_)
        exact D.then_ fun a1 w1 hs => ⟨_, rfl, hs.lessE rfl (lk_cons rfl (lk_cons rfl (fun _ _ h => lk_nil h)))⟩
    · have hneg : ¬ 0 < at_ := by have : decide (at_ > 0) = false := hc; simpa using this
      have hI : insA l at_ = (0, l) := by unfold insA; rw [if_neg (fun h => hneg h.1)]
      rw [hI]
      repeat (first | refine C.skip ?_)
      exact D.then_ fun a1 w1 hs => ⟨_, rfl, hs.lessE rfl (lk_cons rfl (lk_cons rfl (fun _ _ h => lk_nil h)))⟩
  · rintro ⟨md, s⟩ hz
    have hs : s.length ≤ 1000000 := by
      unfold insA at hz
      split at hz
      · cases hz; rw [List.length_take]; omega
      · cases hz; exact hl
    rw [← hz]
    clear hz
    dsimp only
    have hC := cut_S s [43] hs
    have hR := registers_S (Lib.cut s [43]).1
    unfold insB
    cases hb : (Lib.cut s [43]).2.2 with
    | false =>
      rw [hb] at hC
      repeat (first | refine C.seq ?_ | refine C.region ?_ | refine L.nil ?_ | refine D.seq ?_ | refine L.move (k := ?_) | refine L.assign (k := ?_) | refine L.fieldAddr (c := ?_) | refine L.loadA 0 (c := ?_) | refine L.storeV 0 (c := ?_) | refine L.extract (c := ?_) | refine C.no (h1 := ?_) | refine C.ret ?_ | refine C.skip ?_ | refine L.callQ hC (hpre := fun _ hw => hx.bel hw) (k := ?_) | refine L.callQ (hR) (k := ?_))
      refine D.ret (vs := [_]) (RV.cellA 0 rfl rfl rfl rfl rfl RV.nil) ?_
      intro w' hw; exact Post.mk (is := []) hw List.nodup_nil rfl ⟨rfl, rfl⟩
    | true =>
      rw [hb] at hC
      have hm := cut_len2 s [43]
      have hm1 := cut_len1 (Lib.cut s [43]).2.1 [42]
      have hC2 := cut_S (Lib.cut s [43]).2.1 [42] (by omega)
      have hA := atoi_S (Lib.cut (Lib.cut s [43]).2.1 [42]).1 (by omega)
      have hR2 := registers_S (Lib.cut (Lib.cut s [43]).2.1 [42]).2.1
      repeat (first | refine C.seq ?_ | refine C.region ?_ | refine L.nil ?_ | refine D.seq ?_ | refine L.move (k := ?_) | refine L.assign (k := ?_) | refine L.fieldAddr (c := ?_) | refine L.storeV 0 (c := ?_) | refine L.extract (c := ?_) | refine C.yes (h1 := ?_) | refine L.callQ hC (hpre := fun _ hw => hx.bel hw) (k := ?_) | refine L.callQ hC2 (hpre := fun _ hw => hx.bel hw) (k := ?_) | refine L.callQ (hR) (k := ?_))
      refine L.callP [] hA (hpre := fun _ hw => hx.bel hw) (k := ?_)
      rintro u B ⟨e, rfl, rfl⟩
      rw [hdrop_nil, List.nil_append]
      repeat (first | refine C.seq ?_ | refine C.region ?_ | refine L.nil ?_ | refine D.seq ?_ | refine L.move (k := ?_) | refine L.fieldAddr (c := ?_) | refine L.loadA 0 (c := ?_) | refine L.storeV 0 (c := ?_) | refine L.extract (c := ?_) | refine C.ret ?_ | refine L.callQ (hR2) (k := ?_))
      refine D.ret (vs := [_]) (RV.cellA 0 rfl rfl rfl rfl rfl RV.nil) ?_
      intro w' hw; exact Post.mk (is := []) hw List.nodup_nil rfl ⟨rfl, rfl⟩
end Go.Proofs.YtokcamgipnaoeaaGreatDoor.Ls
