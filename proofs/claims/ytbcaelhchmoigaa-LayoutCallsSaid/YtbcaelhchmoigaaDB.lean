import Derived.Test.YtbcaelhchmoigaaDA
set_option maxHeartbeats 8000000
set_option maxRecDepth 100000
set_option linter.unusedVariables false
set_option linter.unusedSimpArgs false
namespace Go.Proofs.Ytbcaelhchmoigaa
open Go.RowKit Calm SL
attribute [local irreducible] SL.L SL.C SL.D SL.N SL.H
theorem einst_S (x : Ins) (hx : x.ok) : Ctr Try.prog 29 [x.V] [] tt (is (.tuple #[.string x.out, .int .i64 (errOf x.chk)]) []) :=
  spec_below (fun w => einst_any x.op x.d x.s x.t x.mb x.mi x.ms x.md x.imm w hx.1 hx.2)
theorem cm_lo {a b : Int} (h : a < b) : cm .lss a b = true := by show decide (a < b) = true; simpa using h
theorem cm_lo' {a b : Int} (h : b ≤ a) : cm .lss a b = false := by show decide (a < b) = false; simpa using h
theorem cm_gt' {a b : Int} (h : a ≤ b) : cm .gtr a b = false := by show decide (a > b) = false; simpa using h
theorem min_nat (a b : Nat) : (if ((b : Nat) : Int) < (a : Nat) then ((b : Nat) : Int) else ((a : Nat) : Int)) = ((min a b : Nat) : Int) := by
  split <;> omega
def winS (code : ByteArray) (a : Nat) : ByteArray := code.extract a (min code.size (a + 16))
theorem winS_bytes (code : ByteArray) (a : Nat) : bytesOf (winS code a) = ((bytesOf code).drop a).take 16 := by
  unfold bytesOf winS
  simp only [ByteArray.data_extract, Array.toList_extract, List.extract_eq_take_drop, List.map_take, List.map_drop]
  rcases Nat.le_total code.size (a + 16) with h | h
  · rw [Nat.min_eq_left h, List.take_of_length_le (by simp), List.take_of_length_le (by simp; omega)]
  · rw [Nat.min_eq_right h, Nat.add_sub_cancel_left]
theorem winS_size (code : ByteArray) (a : Nat) (h : a ≤ code.size) : (winS code a).size = min code.size (a + 16) - a := by unfold winS; rw [ByteArray.size_extract]; omega
theorem cO_start (s : ByteArray) : ob [.string s, .int .i64 0, .bool false] 112 = cO s (bytesOf s, false) := by
  unfold cO; rw [bytesOf_length]; simp
theorem cO_win (code : ByteArray) (a : Nat) : ob [.string (code.extract a (min code.size (a + 16))), .int .i64 0, .bool false] 112 = cO (winS code a) (((bytesOf code).drop a).take 16, false) := by
  rw [← winS_bytes]; exact cO_start (winS code a)
theorem suf_start (s : ByteArray) : Suf s (bytesOf s, false) := ⟨0, by omega, by simp⟩
theorem bytes_byte (code : ByteArray) (a : Nat) : ∀ x ∈ (bytesOf code).drop a, Byte x := by
  intro x hx
  have hx := List.mem_of_mem_drop hx
  unfold bytesOf at hx
  obtain ⟨y, _, rfl⟩ := List.mem_map.1 hx
  have := y.toNat_lt
  show 0 ≤ (y.toNat : Int) ∧ (y.toNat : Int) ≤ 255
  omega
theorem dinst_lack (code : ByteArray) (a : Nat) (h : a < code.size) (hl : code.size ≤ 1000000) (x : Ins) (l : List Int) (hok : x.ok) (hlen : l.length ≤ (winS code a).size)
    (hA : ∀ b, Ctr Try.prog 82 [.pointer (some ⟨b, 0, none⟩)] [(b, cO (winS code a) (((bytesOf code).drop a).take 16, false))] tt (is x.V [(b, cO (winS code a) (l, true))]))  :
    Ctr Try.prog 53 [.string code, .int .i64 a] [] tt (is (.tuple #[zeroI.V, .int .i64 0, .int .i64 4]) []) := by
  have c1 := cm_lo' (show (0 : Int) ≤ a by omega)
  have c2 := cm_gt' (show (a : Int) ≤ code.size by omega)
  have c3 := cm_no (show (a : Int) ≠ code.size by omega)
  have c4 : ar .add .i64 (a : Int) 16 = ((a + 16 : Nat) : Int) := wrap_nat (by omega)
  have hE := einst_S x hok
  refine Ctr.enter Try.func53 Try.ntmps53 rfl rfl (fun w _ => ?_)
  repeat (first | refine Af ?_ | refine Ac ?_ | refine Aa ?_ | refine Ae ?_ | refine Ad ?_ | refine Ag ?_ | refine Ah ?_ | refine Ao ?_ | refine As ?_ | refine Aq (fun _ => ?_) | refine L.box (c := fun _ => ?_) | refine Aj ?_ | refine Ax ?_ | refine Aw ?_ | refine L.lenS (c := ?_) | refine Ai ?_ | refine Ar ?_ | refine Ap ?_ | refine L.minI (by exact rfl) (by exact rfl) (by exact rfl) (min_nat code.size (a + 16)) ?_ | refine L.sliceS (lo := a) (hi := min code.size (a + 16)) (by exact rfl) (by exact rfl) (by exact .inr ⟨_, _, rfl, rfl⟩) (by exact .inr ⟨_, _, rfl, rfl⟩) (by omega) (by omega) ?_)
  rw [cO_win]
  repeat (first | refine Af ?_ | refine Ac ?_ | refine Aa ?_ | refine Ae ?_ | refine Ad ?_ | refine Ag ?_ | refine Ay ?_ | refine Ak 0 ?_ | refine Al 1 ?_ | refine Ab 1 ?_ | refine Bd ?_ | refine As ?_ | refine L.nilCheck (k := ?_) | refine Am ?_ | refine Be ?_ | refine Bf ?_ | refine An ?_ | refine Av ?_ | exact D.endsQ | refine C.quiet (h := ?_) | (refine QL.step (v := ?_) (by exact rfl) (by exact rfl) ?_ ?_; rotate_left) | refine L.call1 0 (hA _) (by exact rfl) (by exact rfl) (by exact rfl) (fun _ _ => trivial) (by simp only [hset]; rfl) ?_ | refine L.callQ hE (by exact rfl) (by exact rfl) (fun _ _ => trivial) ?_)
  refine D.ret (vs := [zeroI.V, .int .i64 0, .int .i64 4]) ?_ ?_
  · exact RV.cellA 1 rfl rfl rfl rfl rfl (RV.tmp rfl (RV.tmp rfl RV.nil))
  · intro w' hw
    exact Post.mk (is := []) hw (by decide) rfl ⟨rfl, rfl⟩
theorem dinst_chk (code : ByteArray) (a : Nat) (h : a < code.size) (hl : code.size ≤ 1000000) (x : Ins) (l : List Int) (hok : x.ok) (hlen : l.length ≤ (winS code a).size)
    (hA : ∀ b, Ctr Try.prog 82 [.pointer (some ⟨b, 0, none⟩)] [(b, cO (winS code a) (((bytesOf code).drop a).take 16, false))] tt (is x.V [(b, cO (winS code a) (l, false))])) (hc : x.chk = false) :
    Ctr Try.prog 53 [.string code, .int .i64 a] [] tt (is (.tuple #[zeroI.V, .int .i64 0, .int .i64 4]) []) := by
  have c1 := cm_lo' (show (0 : Int) ≤ a by omega)
  have c2 := cm_gt' (show (a : Int) ≤ code.size by omega)
  have c3 := cm_no (show (a : Int) ≠ code.size by omega)
  have c4 : ar .add .i64 (a : Int) 16 = ((a + 16 : Nat) : Int) := wrap_nat (by omega)
  have c5 : cm .neq (errOf x.chk) 0 = true := by rw [hc]; rfl
  have hE := einst_S x hok
  refine Ctr.enter Try.func53 Try.ntmps53 rfl rfl (fun w _ => ?_)
  repeat (first | refine Af ?_ | refine Ac ?_ | refine Aa ?_ | refine Ae ?_ | refine Ad ?_ | refine Ag ?_ | refine Ah ?_ | refine Ao ?_ | refine As ?_ | refine Aq (fun _ => ?_) | refine L.box (c := fun _ => ?_) | refine Aj ?_ | refine Ax ?_ | refine Aw ?_ | refine L.lenS (c := ?_) | refine Ai ?_ | refine Ar ?_ | refine Ap ?_ | refine L.minI (by exact rfl) (by exact rfl) (by exact rfl) (min_nat code.size (a + 16)) ?_ | refine L.sliceS (lo := a) (hi := min code.size (a + 16)) (by exact rfl) (by exact rfl) (by exact .inr ⟨_, _, rfl, rfl⟩) (by exact .inr ⟨_, _, rfl, rfl⟩) (by omega) (by omega) ?_)
  rw [cO_win]
  repeat (first | refine Af ?_ | refine Ac ?_ | refine Aa ?_ | refine Ae ?_ | refine Ad ?_ | refine Ag ?_ | refine Ah ?_ | refine Ay ?_ | refine Ak 0 ?_ | refine Al 1 ?_ | refine Ab 1 ?_ | refine Bd ?_ | refine As ?_ | refine L.nilCheck (k := ?_) | refine Am ?_ | refine Be ?_ | refine Ax ?_ | refine Aw ?_ | refine Bf ?_ | refine An ?_ | refine Av ?_ | exact D.endsQ | refine C.quiet (h := ?_) | (refine QL.step (v := ?_) (by exact rfl) (by exact rfl) ?_ ?_; rotate_left) | refine L.call1 0 (hA _) (by exact rfl) (by exact rfl) (by exact rfl) (fun _ _ => trivial) (by simp only [hset]; rfl) ?_ | refine L.callQ hE (by exact rfl) (by exact rfl) (fun _ _ => trivial) ?_)
  refine D.ret (vs := [zeroI.V, .int .i64 0, .int .i64 4]) ?_ ?_
  · exact RV.cellA 1 rfl rfl rfl rfl rfl (RV.tmp rfl (RV.tmp rfl RV.nil))
  · intro w' hw
    exact Post.mk (is := []) hw (by decide) rfl ⟨rfl, rfl⟩
theorem dinst_str (code : ByteArray) (a : Nat) (h : a < code.size) (hl : code.size ≤ 1000000) (x : Ins) (l : List Int) (hok : x.ok) (hlen : l.length ≤ (winS code a).size)
    (hA : ∀ b, Ctr Try.prog 82 [.pointer (some ⟨b, 0, none⟩)] [(b, cO (winS code a) (((bytesOf code).drop a).take 16, false))] tt (is x.V [(b, cO (winS code a) (l, false))])) (hc : x.chk = true) (hs : sne x.out ((winS code a).extract 0 ((winS code a).size - l.length)) = true) :
    Ctr Try.prog 53 [.string code, .int .i64 a] [] tt (is (.tuple #[zeroI.V, .int .i64 0, .int .i64 4]) []) := by
  have c1 := cm_lo' (show (0 : Int) ≤ a by omega)
  have c2 := cm_gt' (show (a : Int) ≤ code.size by omega)
  have c3 := cm_no (show (a : Int) ≠ code.size by omega)
  have c4 : ar .add .i64 (a : Int) 16 = ((a + 16 : Nat) : Int) := wrap_nat (by omega)
  have c5 : cm .neq (errOf x.chk) 0 = false := by rw [hc]; rfl
  have hE := einst_S x hok
  refine Ctr.enter Try.func53 Try.ntmps53 rfl rfl (fun w _ => ?_)
  repeat (first | refine Af ?_ | refine Ac ?_ | refine Aa ?_ | refine Ae ?_ | refine Ad ?_ | refine Ag ?_ | refine Ah ?_ | refine Ao ?_ | refine As ?_ | refine Aq (fun _ => ?_) | refine L.box (c := fun _ => ?_) | refine Aj ?_ | refine Ax ?_ | refine Aw ?_ | refine L.lenS (c := ?_) | refine Ai ?_ | refine Ar ?_ | refine Ap ?_ | refine L.minI (by exact rfl) (by exact rfl) (by exact rfl) (min_nat code.size (a + 16)) ?_ | refine L.sliceS (lo := a) (hi := min code.size (a + 16)) (by exact rfl) (by exact rfl) (by exact .inr ⟨_, _, rfl, rfl⟩) (by exact .inr ⟨_, _, rfl, rfl⟩) (by omega) (by omega) ?_)
  rw [cO_win]
  repeat (first | refine Af ?_ | refine Ac ?_ | refine Aa ?_ | refine Ae ?_ | refine Ad ?_ | refine Ag ?_ | refine Ah ?_ | refine Ay ?_ | refine Ak 0 ?_ | refine Al 1 ?_ | refine Ab 1 ?_ | refine Bd ?_ | refine As ?_ | refine L.nilCheck (k := ?_) | refine Am ?_ | refine Ax ?_ | refine Aw ?_ | refine L.strNe (c := ?_) | refine An ?_ | refine Av ?_ | exact D.endsQ | refine C.quiet (h := ?_) | (refine QL.step (v := ?_) (by exact rfl) (by exact rfl) ?_ ?_; rotate_left) | refine L.call1 0 (hA _) (by exact rfl) (by exact rfl) (by exact rfl) (fun _ _ => trivial) (by simp only [hset]; rfl) ?_ | refine L.callQ hE (by exact rfl) (by exact rfl) (fun _ _ => trivial) ?_ | refine L.sliceS (lo := 0) (hi := (winS code a).size - l.length) (by exact rfl) (by exact rfl) (by exact .inl ⟨rfl, rfl⟩) (by exact .inr ⟨_, _, rfl, rfl⟩) (by omega) (by omega) ?_)
  refine D.ret (vs := [zeroI.V, .int .i64 0, .int .i64 4]) ?_ ?_
  · exact RV.cellA 1 rfl rfl rfl rfl rfl (RV.tmp rfl (RV.tmp rfl RV.nil))
  · intro w' hw
    exact Post.mk (is := []) hw (by decide) rfl ⟨rfl, rfl⟩
theorem dinst_good (code : ByteArray) (a : Nat) (h : a < code.size) (hl : code.size ≤ 1000000) (x : Ins) (l : List Int) (hok : x.ok) (hlen : l.length ≤ (winS code a).size)
    (hA : ∀ b, Ctr Try.prog 82 [.pointer (some ⟨b, 0, none⟩)] [(b, cO (winS code a) (((bytesOf code).drop a).take 16, false))] tt (is x.V [(b, cO (winS code a) (l, false))])) (hc : x.chk = true) (hs : sne x.out ((winS code a).extract 0 ((winS code a).size - l.length)) = false) :
    Ctr Try.prog 53 [.string code, .int .i64 a] [] tt (is (.tuple #[x.V, .int .i64 (((winS code a).size - l.length : Nat) : Int), .int .i64 0]) []) := by
  have c1 := cm_lo' (show (0 : Int) ≤ a by omega)
  have c2 := cm_gt' (show (a : Int) ≤ code.size by omega)
  have c3 := cm_no (show (a : Int) ≠ code.size by omega)
  have c4 : ar .add .i64 (a : Int) 16 = ((a + 16 : Nat) : Int) := wrap_nat (by omega)
  have c5 : cm .neq (errOf x.chk) 0 = false := by rw [hc]; rfl
  have hE := einst_S x hok
  refine Ctr.enter Try.func53 Try.ntmps53 rfl rfl (fun w _ => ?_)
  repeat (first | refine Af ?_ | refine Ac ?_ | refine Aa ?_ | refine Ae ?_ | refine Ad ?_ | refine Ag ?_ | refine Ah ?_ | refine Ao ?_ | refine As ?_ | refine Aq (fun _ => ?_) | refine L.box (c := fun _ => ?_) | refine Aj ?_ | refine Ax ?_ | refine Aw ?_ | refine L.lenS (c := ?_) | refine Ai ?_ | refine Ar ?_ | refine Ap ?_ | refine L.minI (by exact rfl) (by exact rfl) (by exact rfl) (min_nat code.size (a + 16)) ?_ | refine L.sliceS (lo := a) (hi := min code.size (a + 16)) (by exact rfl) (by exact rfl) (by exact .inr ⟨_, _, rfl, rfl⟩) (by exact .inr ⟨_, _, rfl, rfl⟩) (by omega) (by omega) ?_)
  rw [cO_win]
  repeat (first | refine Af ?_ | refine Ac ?_ | refine Aa ?_ | refine Ae ?_ | refine Ad ?_ | refine Ag ?_ | refine Ah ?_ | refine Ay ?_ | refine Ak 0 ?_ | refine Al 1 ?_ | refine Ab 1 ?_ | refine Bd ?_ | refine L.nilCheck (k := ?_) | refine Aj ?_ | refine Ax ?_ | refine Aw ?_ | refine L.strNe (c := ?_) | refine Ap ?_ | exact D.endsQ | refine C.quiet (h := ?_) | (refine QL.step (v := ?_) (by exact rfl) (by exact rfl) ?_ ?_; rotate_left) | refine L.call1 0 (hA _) (by exact rfl) (by exact rfl) (by exact rfl) (fun _ _ => trivial) (by simp only [hset]; rfl) ?_ | refine L.callQ hE (by exact rfl) (by exact rfl) (fun _ _ => trivial) ?_ | refine L.sliceS (lo := 0) (hi := (winS code a).size - l.length) (by exact rfl) (by exact rfl) (by exact .inl ⟨rfl, rfl⟩) (by exact .inr ⟨_, _, rfl, rfl⟩) (by omega) (by omega) ?_)
  refine C.draw (by kernel_rfl) ?_
  refine N.take 1 (by exact rfl) (Clm.move (by exact rfl)) (by exact rfl) (by kernel_rfl) (by kernel_rfl) (by kernel_rfl) (fun _ _ _ h => h) (by exact rfl) ?_
  refine N.take 2 (by exact rfl) (Clm.nilCheck (by exact rfl)) (by exact rfl) (by kernel_rfl) (by kernel_rfl) (by kernel_rfl) (fun _ _ _ h => h) (by exact rfl) ?_
  refine N.take 3 (by exact rfl) (Clm.fieldAddr (by exact rfl)) (by exact rfl) (by kernel_rfl) (by kernel_rfl) (by kernel_rfl) (fun _ _ _ h => h) (by exact rfl) ?_
  repeat' (first | refine Aa ?_ | refine Ae ?_ | refine Ag ?_ | refine Ak 0 ?_ | refine Al 1 ?_ | refine Ab 1 ?_ | refine An ?_ | refine D.any ?_ | refine N.fin (h := ?_) | refine N.one (i := 0) (h := ?_) | refine N.one (i := 4) (h := ?_) | refine N.one (i := 5) (h := ?_) | refine N.one (i := 6) (h := ?_) | refine N.one (i := 7) (h := ?_) | refine N.two (i := 0) (j := 4) (by decide +kernel) (by exact rfl) (by exact rfl) (by exact rfl) (by exact rfl) ?_ ?_ | refine N.two (i := 0) (j := 5) (by decide +kernel) (by exact rfl) (by exact rfl) (by exact rfl) (by exact rfl) ?_ ?_ | refine N.two (i := 0) (j := 6) (by decide +kernel) (by exact rfl) (by exact rfl) (by exact rfl) (by exact rfl) ?_ ?_ | refine N.two (i := 0) (j := 7) (by decide +kernel) (by exact rfl) (by exact rfl) (by exact rfl) (by exact rfl) ?_ ?_ | refine N.two (i := 4) (j := 5) (by decide +kernel) (by exact rfl) (by exact rfl) (by exact rfl) (by exact rfl) ?_ ?_ | refine N.two (i := 4) (j := 6) (by decide +kernel) (by exact rfl) (by exact rfl) (by exact rfl) (by exact rfl) ?_ ?_ | refine N.two (i := 4) (j := 7) (by decide +kernel) (by exact rfl) (by exact rfl) (by exact rfl) (by exact rfl) ?_ ?_ | refine N.two (i := 5) (j := 6) (by decide +kernel) (by exact rfl) (by exact rfl) (by exact rfl) (by exact rfl) ?_ ?_ | refine N.two (i := 5) (j := 7) (by decide +kernel) (by exact rfl) (by exact rfl) (by exact rfl) (by exact rfl) ?_ ?_ | refine N.two (i := 6) (j := 7) (by decide +kernel) (by exact rfl) (by exact rfl) (by exact rfl) (by exact rfl) ?_ ?_)
  all_goals
    refine D.ret (vs := [x.V, .int .i64 (((winS code a).size - l.length : Nat) : Int), .int .i64 0]) ?_ ?_
    · exact RV.cellA 1 rfl rfl rfl rfl rfl (RV.tmp rfl (RV.tmp rfl RV.nil))
    · intro w' hw
      exact Post.mk (is := []) hw (by decide) rfl ⟨rfl, rfl⟩
end Go.Proofs.Ytbcaelhchmoigaa
namespace Go.Proofs.Ytbcaelhchmoigaa
open Go.RowKit Calm SL
theorem rd_win (code : ByteArray) (a : Nat) (h : a ≤ code.size) : usedD ((bytesOf code).drop a) = (winS code a).size - (winD ((bytesOf code).drop a)).2.1.length := by
  unfold usedD; rw [← winS_bytes, bytesOf_length]
theorem bytesOf_inj {x y : ByteArray} (h : bytesOf x = bytesOf y) : x = y := by rw [← strB_bytesOf x, ← strB_bytesOf y, h]
theorem sne_eq (x y : ByteArray) : sne x y = !decide (bytesOf x = bytesOf y) := by
  unfold sne
  have e : (x.toList == y.toList) = decide (bytesOf x = bytesOf y) := by
    rw [Bool.eq_iff_iff, beq_iff_eq, decide_eq_true_eq]
    constructor
    · intro h
      have : x = y := by
        have h1 := congrArg List.toArray h
        rw [ByteArray.toList_eq, ByteArray.toList_eq] at h
        cases x; cases y; simp at h; simp [h]
      rw [this]
    · intro h; rw [bytesOf_inj h]
  rw [e]
theorem bytesOf_strB {l : List Int} (h : Bytes l) : bytesOf (strB l) = l := by
  unfold bytesOf
  rw [strB_list, List.map_map]
  conv => rhs; rw [← List.map_id l]
  apply List.map_congr_left
  intro b hb
  have := h b hb
  show ((UInt8.ofNat b.toNat).toNat : Int) = b
  rw [UInt8.toNat_ofNat']
  omega
theorem bytesOf_extract (s : ByteArray) (n : Nat) : bytesOf (s.extract 0 n) = (bytesOf s).take n := by
  unfold bytesOf
  simp [List.extract_eq_take_drop, List.map_take]
theorem dinst_S (code : ByteArray) (a : Nat) (h : a < code.size) (hl : code.size ≤ 1000000) :
    Ctr Try.prog 53 [.string code, .int .i64 a] [] tt (is (.tuple #[(rdD ((bytesOf code).drop a)).1.V, .int .i64 (rdD ((bytesOf code).drop a)).2.1, .int .i64 (rdD ((bytesOf code).drop a)).2.2]) []) := by
  have hok := win_ok ((bytesOf code).drop a) (bytes_byte code a)
  have hA := fun b => any_S b (winS code a) (by rw [winS_size code a (by omega)]; omega) (bytesOf (winS code a)) false (suf_start _)
  have hlen := any_left (bytesOf (winS code a)) false
  have hu := rd_win code a (by omega)
  rw [bytesOf_length] at hlen
  rw [winS_bytes] at hA hlen
  unfold rdD goodD
  rw [hu]
  unfold winD at hok ⊢
  generalize hX : anyD (((bytesOf code).drop a).take 16) false = X at hok hA hlen ⊢
  obtain ⟨x, l, k⟩ := X
  simp only at hok hA hlen ⊢
  cases k
  · cases hc : x.chk
    · exact dinst_chk code a h hl x l hok hlen hA hc
    · have hb : bytesOf x.out = x.enc := by rw [Ins.out_ok hc, bytesOf_strB (Ins.enc_bytes hc).1]
      have hs := sne_eq x.out ((winS code a).extract 0 ((winS code a).size - l.length))
      rw [hb, bytesOf_extract, winS_bytes] at hs
      by_cases he : x.enc = (((bytesOf code).drop a).take 16).take ((winS code a).size - l.length)
      · rw [decide_eq_true he] at hs ⊢
        exact dinst_good code a h hl x l hok hlen hA hc hs
      · rw [decide_eq_false he] at hs ⊢
        exact dinst_str code a h hl x l hok hlen hA hc hs
  · exact dinst_lack code a h hl x l hok hlen hA
end Go.Proofs.Ytbcaelhchmoigaa
namespace Go.Proofs.Ytbcaelhchmoigaa
open Go.RowKit Calm SL
attribute [local irreducible] SL.L SL.C SL.D SL.N SL.H
def rows (l : List Int) (a : Nat) : List (Nat × Ins) :=
  if _h : l ≠ [] ∧ 0 < (rdD l).2.1 ∧ (rdD l).2.2 = 0 then (a, (rdD l).1) :: rows (l.drop (rdD l).2.1) (a + (rdD l).2.1) else []
termination_by l.length
decreasing_by
  rw [List.length_drop]
  have : 0 < l.length := List.length_pos_iff.2 _h.1
  omega
def encR (x : Nat × Ins) : List Value := [.int .i64 x.1, x.2.V]
theorem rd_err (l : List Int) (h : (rdD l).2.2 ≠ 0) : rdD l = (zeroI, 0, 4) := by
  unfold rdD at h ⊢
  split
  · rename_i hg; rw [if_pos hg] at h; exact absurd rfl h
  · rfl
theorem rd_pos {l : List Int} (hl : ∀ x ∈ l, Byte x) (h : (rdD l).2.2 = 0) : 0 < (rdD l).2.1 ∧ (rdD l).2.1 ≤ l.length := by
  rcases rd_cases l hl with ⟨x, r, h1, h2, h3, h4⟩ | ⟨_, h4⟩
  · rw [h4]
    simp only
    rw [h1, List.length_append]
    exact ⟨(Ins.enc_bytes h2).2.1, by omega⟩
  · rw [h4] at h; simp at h
theorem rd_good {l : List Int} (hl : ∀ x ∈ l, Byte x) (h : (rdD l).2.2 = 0) : (rdD l).1.ok ∧ (rdD l).1.chk = true := by
  rcases rd_cases l hl with ⟨x, r, h1, h2, h3, h4⟩ | ⟨_, h4⟩
  · rw [h4]; exact ⟨h3, h2⟩
  · rw [h4] at h; simp at h
theorem rd_len {l : List Int} (hl : ∀ x ∈ l, Byte x) (h : (rdD l).2.2 = 0) : (rdD l).2.1 = (rdD l).1.enc.length := by
  rcases rd_cases l hl with ⟨x, r, h1, h2, h3, h4⟩ | ⟨_, h4⟩
  · rw [h4]
  · rw [h4] at h; simp at h
def endAt (a : Nat) (pre : List (Nat × Ins)) : Nat := match pre.getLast? with
  | none => a
  | some (k, x) => k + x.enc.length
theorem rows_at : ∀ (pre : List (Nat × Ins)) (l : List Int) (a k : Nat) (x : Ins) (r : List (Nat × Ins)), (∀ b ∈ l, Byte b) → rows l a = pre ++ (k, x) :: r →
    a ≤ k ∧ k - a < l.length ∧ rdD (l.drop (k - a)) = (x, x.enc.length, 0) ∧ x.ok ∧ x.chk = true ∧ r = rows (l.drop (k - a + x.enc.length)) (k + x.enc.length) ∧ k = endAt a pre
  | [], l, a, k, x, r, hb, h => by
    rw [rows] at h
    split at h
    · rename_i hc
      simp only [List.nil_append, List.cons.injEq, Prod.mk.injEq] at h
      obtain ⟨⟨rfl, rfl⟩, rfl⟩ := h
      have h1 := rd_good hb hc.2.2
      have h2 := rd_len hb hc.2.2
      refine ⟨Nat.le_refl _, by rw [Nat.sub_self]; exact List.length_pos_iff.2 hc.1, ?_, h1.1, h1.2, by rw [Nat.sub_self, Nat.zero_add, h2], rfl⟩
      rw [Nat.sub_self, List.drop_zero, ← h2, ← hc.2.2]
    · cases h
  | p :: pre, l, a, k, x, r, hb, h => by
    rw [rows] at h
    split at h
    · rename_i hc
      simp only [List.cons_append, List.cons.injEq] at h
      obtain ⟨rfl, h⟩ := h
      have hp := rd_pos hb hc.2.2
      obtain ⟨g1, g2, g3, g4, g5, g6, g7⟩ := rows_at pre _ _ k x r (fun b hb' => hb b (List.mem_of_mem_drop hb')) h
      rw [List.length_drop] at g2
      have e : (rdD l).2.1 + (k - (a + (rdD l).2.1)) = k - a := by omega
      rw [List.drop_drop, e] at g3
      rw [List.drop_drop, ← Nat.add_assoc, e] at g6
      refine ⟨by omega, by omega, g3, g4, g5, g6, ?_⟩
      rw [g7]
      unfold endAt
      cases hl : pre.getLast? with
      | none =>
        have : pre = [] := by simpa using hl
        subst this
        simp [rd_len hb hc.2.2]
      | some q =>
        have : ((a, (rdD l).1) :: pre).getLast? = some q := by
          rw [List.getLast?_cons]; rw [hl]; rfl
        rw [this]
    · cases h
theorem each_S (code : ByteArray) : Ctr Try.prog 36 [.string code] [] tt (fun v B => ∃ b, v = .func (.func 54) #[] #[.pointer (some ⟨b, 0, none⟩)] ∧ B = [(b, ob [.string code] 9)]) := by
  refine Ctr.enter Try.func36 Try.ntmps36 rfl rfl (fun w _ => ?_)
  repeat (first | refine Af ?_ | refine Ac ?_ | refine Aa ?_ | refine Ae ?_ | refine Ag ?_ | refine L.box (c := fun _ => ?_) | refine An ?_ | refine L.makeFunc (k := ?_) | refine L.makeFunc (by exact rfl) (by exact rfl) (by exact rfl) ?_)
  refine D.ret (vs := [.func (.func 54) #[] #[.pointer (some ⟨_, 0, none⟩)]]) (RV.tmp rfl RV.nil) ?_
  intro w' hw
  exact Post.mk (is := [0]) hw (by decide) rfl ⟨_, rfl, rfl⟩
theorem each1_seq (code : ByteArray) (hl : code.size ≤ 1000000) (w : World) (b : Nat) (hb : w.heap[b]? = some (ob [.string code] 9)) (Bk : List Nat) (hBk : b ∉ Bk) :
    SeqV Try.prog 54 [.pointer (some ⟨b, 0, none⟩)].toArray (fun x => (encR x).toArray) (Kpr w Bk) (fun pre x => ∃ r, rows (bytesOf code) 0 = pre ++ x :: r) (fun xs => xs = rows (bytesOf code) 0) (fun pre => ∃ r, rows (bytesOf code) 0 = pre ++ r) w := by
  refine Seq.enter (Bx := [(b, ob [.string code] 9)]) Try.func54 Try.ntmps54 rfl rfl (by simp [keys]) (by simpa using hb) (by simpa using hBk) (fun l J Jx W hit h0 => ?_)
  repeat (first | refine Af ?_ | refine Ac ?_ | refine Aa ?_ | refine Ae ?_ | refine Ag ?_ | refine Ai ?_)
  refine C.loopS (α := List (Nat × Ins) × Nat × World) (fun x => Jb J [(b, ob [.string code] 9)] x.1 x.2.2 ∧ x.2.1 ≤ code.size ∧ rows (bytesOf code) 0 = x.1 ++ rows ((bytesOf code).drop x.2.1) x.2.1)
    (fun x => { w0 := x.2.2, A := keys [(b, ob [.string code] 9)], n := 30 }) (fun x => [(0, .func (.yield l) #[] #[]), (1, .pointer (some ⟨b, 0, none⟩)), (3, .int .i64 x.2.1)])
    (fun _ => [(b, ob [.string code] 9)]) (fun x => code.size - x.2.1) ([], 0, W) (fun _ => rfl)
    (fun a w hs => hs.less (is := [0]) (by decide) rfl (lk_cons rfl (lk_cons rfl (lk_cons rfl (fun _ _ h => lk_nil h))))) ⟨h0, Nat.zero_le _, by simp⟩ ?_
  rintro ⟨pre, a, V⟩ ⟨hJ, ha, hr⟩
  simp only at hJ ha hr ⊢
  rcases Nat.lt_or_ge a code.size with hlt | hge
  · have hc : cm .lss (a : Int) code.size = true := cm_lo (by omega)
    have hne : (bytesOf code).drop a ≠ [] := by
      intro e
      have := congrArg List.length e
      rw [List.length_drop, bytesOf_length] at this
      simp at this; omega
    have hi := dinst_S code a hlt hl
    by_cases he : (rdD ((bytesOf code).drop a)).2.2 = 0
    · obtain ⟨hp1, hp2⟩ := rd_pos (bytes_byte code a) he
      have hrow : rows ((bytesOf code).drop a) a = (a, (rdD ((bytesOf code).drop a)).1) :: rows ((bytesOf code).drop (a + (rdD ((bytesOf code).drop a)).2.1)) (a + (rdD ((bytesOf code).drop a)).2.1) := by
        rw [rows, dif_pos ⟨hne, hp1, he⟩, List.drop_drop]
      rw [hrow] at hr
      rw [he] at hi
      rw [List.length_drop, bytesOf_length] at hp2
      generalize rdD ((bytesOf code).drop a) = X at *
      obtain ⟨x, n, e⟩ := X
      simp only at hi hr hp1 hp2
      have hnn : cm .neq (0 : Int) 0 = false := rfl
      have hw : ar .add .i64 (a : Int) n = ((a + n : Nat) : Int) := by
        exact wrap_nat (by omega)
      repeat (first | refine Af ?_ | refine Ac ?_ | refine Aa ?_ | refine Ae ?_ | refine Ad ?_ | refine Ag ?_ | refine Ah ?_ | refine Ak 0 ?_ | refine Al 0 ?_ | refine Ab 0 ?_ | refine Bd ?_ | refine Aq (fun _ => ?_) | refine Am ?_ | refine Aw ?_ | refine L.lenS (c := ?_) | refine Ai ?_ | refine Ap ?_ | refine L.callQ hi (by exact rfl) (by exact rfl) (fun _ _ => trivial) ?_)
      refine L.yield hit (a, x) [1] hJ ⟨_, hr⟩ (by exact rfl) (by exact rfl) (by exact rfl) (by exact rfl) (by exact rfl) (by exact rfl) (fun W' hJ' => ?_) (fun W' hJ' => ?_)
      · repeat (first | refine Ac ?_ | refine Aa ?_ | refine Ad ?_ | refine Ag ?_ | refine Ao ?_ | refine Aj ?_ | refine Ax ?_ | refine Aw ?_ | refine L.not (c := ?_) | refine Ar ?_ | refine Ap ?_ | refine Bc ?_)
        refine D.then_ fun a1 w1 hs => ⟨(pre ++ [(a, x)], a + n, W'), ⟨hJ', by show a + n ≤ code.size; omega, by simpa using hr⟩, by show code.size - (a + n) < code.size - a; omega, ?_⟩
        exact hs.less (is := [0]) (by decide) rfl (lk_cons rfl (lk_cons rfl (lk_cons rfl (fun _ _ h => lk_nil h))))
      · repeat (first | refine Aa ?_ | refine Am ?_ | refine Ax ?_ | refine Aw ?_ | refine L.not (c := ?_) | refine An ?_ | refine Av ?_ | refine Bb ?_ | refine Bc ?_)
        refine D.ret (vs := []) RV.nil (fun w1 hw => ⟨⟨_, rfl⟩, .inr ⟨_, ⟨rows ((bytesOf code).drop (a + n)) (a + n), by rw [hr]; simp⟩, hit.sx _ _ _ hJ' (At.keeps hw)⟩⟩)
    · rw [rd_err _ he] at hi
      have hnn : cm .neq (4 : Int) 0 = true := rfl
      repeat (first | refine Af ?_ | refine Ac ?_ | refine Aa ?_ | refine Ae ?_ | refine Ad ?_ | refine Ag ?_ | refine Ah ?_ | refine Ak 0 ?_ | refine Ab 0 ?_ | refine Bd ?_ | refine Aq (fun _ => ?_) | refine Am ?_ | refine Be ?_ | refine Bf ?_ | refine L.lenS (c := ?_) | refine Ai ?_ | refine An ?_ | refine Av ?_ | refine Bb ?_ | refine Ap ?_ | refine L.callQ hi (by exact rfl) (by exact rfl) (fun _ _ => trivial) ?_)
      refine D.ret (vs := []) RV.nil (fun w1 hw => ⟨⟨_, rfl⟩, .inl ⟨_, ?_, hit.sj _ _ _ hJ.1 (hw.keeps0 hJ.2 (is := [1]) rfl rfl)⟩⟩)
      rw [hr, rows, dif_neg (fun h => he h.2.2)]; simp
  · have hc : cm .lss (a : Int) code.size = false := cm_lo' (by omega)
    repeat (first | refine Af ?_ | refine Ac ?_ | refine Aa ?_ | refine Ae ?_ | refine Ad ?_ | refine Ah ?_ | refine Ak 0 ?_ | refine Aj ?_ | refine L.lenS (c := ?_) | refine C.exit ?_ | refine Bg ?_ | refine Bh ?_)
    refine D.fin (vs := []) RV.nil (fun w1 hw => ⟨⟨_, rfl⟩, .inl ⟨_, ?_, hit.sj _ _ _ hJ.1 (hw.keeps0 hJ.2 (is := [0]) rfl rfl)⟩⟩)
    have hd : (bytesOf code).drop a = [] := List.drop_eq_nil_of_le (by rw [bytesOf_length]; omega)
    rw [hr, hd, rows, dif_neg (fun h => h.1 rfl)]; simp
end Go.Proofs.Ytbcaelhchmoigaa
namespace Go.Proofs.Ytbcaelhchmoigaa
open Go.RowKit Calm SL
attribute [local irreducible] SL.L SL.C SL.D SL.N SL.H
def sliceV {α : Type} (xs : List α) : Option (Nat × List Value × Nat) → Value
  | none => .slice none 0 0
  | some (b, _, cap) => .slice (some ⟨b, 0, none⟩) xs.length cap
def sliceM (T : Nat) : Option (Nat × List Value × Nat) → Hp
  | none => []
  | some (b, l, _) => [(b, ob l T)]
def sliceG {α : Type} (n : Nat) (enc : α → List Value) (xs : List α) : Option (Nat × List Value × Nat) → Prop
  | none => xs = []
  | some (_, l, cap) => l.length = cap * n ∧ xs.length ≤ cap ∧ cap ≤ maxLen ∧ l.take (xs.length * n) = xs.flatMap enc
def cells9 (x : Ins) : List Value := [.int .i64 x.op, .int .i64 x.d, .int .i64 x.s, .int .i64 x.t, .int .i64 x.mb, .int .i64 x.mi, .int .i64 x.ms, .int .i64 x.md, .int .i64 x.imm]
abbrev endOf (l : List (Nat × Ins)) : Nat := endAt 0 l
theorem bytes_all (code : ByteArray) : ∀ x ∈ bytesOf code, Byte x := by have := bytes_byte code 0; rwa [List.drop_zero] at this
theorem size_S (x : Ins) (h : x.ok) (hc : x.chk = true) : Ctr Try.prog 35 [x.V] [] tt (is (.int .i64 x.enc.length) []) := by
  have := spec_below (fun w => size_any x.op x.d x.s x.t x.mb x.mi x.ms x.md x.imm w h.1 h.2)
  have e : x.out.size = x.enc.length := by rw [← bytesOf_length, Ins.out_ok hc, bytesOf_strB (Ins.enc_bytes hc).1]
  have e' : (outE x.op x.d x.s x.t x.mb x.mi x.ms x.md x.imm).size = x.enc.length := e
  rw [e'] at this
  exact this
theorem endOf_snoc (pre : List (Nat × Ins)) (x : Nat × Ins) : endOf (pre ++ [x]) = x.1 + x.2.enc.length := by
  unfold endOf endAt; simp
theorem rows_length : ∀ (l : List Int) (a : Nat), (rows l a).length ≤ l.length := by
  intro l
  induction h : l.length using Nat.strongRecOn generalizing l with
  | _ n ih =>
    intro a
    rw [rows]
    split
    · rename_i hc
      have : 0 < l.length := List.length_pos_iff.2 hc.1
      have h2 := ih (l.drop (rdD l).2.1).length (by rw [List.length_drop]; omega) _ rfl (a + (rdD l).2.1)
      rw [List.length_drop] at h2
      rw [List.length_cons]; omega
    · exact Nat.zero_le _
theorem all_S (code : ByteArray) (hl : code.size ≤ 1000000) : Ctr Try.prog 33 [.string code] [] tt (fun v B => ∃ y : Option (Nat × List Value × Nat), sliceG 9 cells9 ((rows (bytesOf code) 0).map (·.2)) y ∧
    v = .tuple #[sliceV ((rows (bytesOf code) 0).map (·.2)) y, .int .i64 (endOf (rows (bytesOf code) 0)), .int .i64 (if endOf (rows (bytesOf code) 0) < code.size then (rdD ((bytesOf code).drop (endOf (rows (bytesOf code) 0)))).2.2 else 0)] ∧ B = sliceM 35 y) := by
  refine Ctr.enterM Try.func33 Try.ntmps33 rfl rfl (fun w _ => ?_)
  repeat (first | refine Af ?_ | refine Ac ?_ | refine Aa ?_ | refine Ae ?_ | refine Ad ?_ | refine Ag ?_ | refine Ab 0 ?_ | refine Aq (fun _ => ?_) | refine Ai ?_ | (refine L.callP [] (each_S code) (by exact rfl) (by exact rfl) (by exact rfl) (by decide) (fun _ _ => trivial) ?_; rintro v B ⟨b, rfl, rfl⟩; rw [hdrop_nil, List.singleton_append]))
  rename_i bo ba
  refine C.range (α := Nat × Ins) (β := Option (Nat × List Value × Nat)) (by exact rfl) (by exact rfl) encR [1, 2] (by exact rfl) (by decide) (V := fun pre x => ∃ r, rows (bytesOf code) 0 = pre ++ x :: r) (S := fun xs => xs = rows (bytesOf code) 0) (Sp := fun pre => ∃ r, rows (bytesOf code) 0 = pre ++ r)
    (fun w' hw' => each1_seq code hl w' b (hw'.holds (b, _) List.mem_cons_self) _ (by have := hw'.nodup; simp only [keys, List.map_cons, List.map_nil, List.nodup_cons] at this ⊢; exact this.1))
    (fun _ => rfl) (by exact rfl) (fun pre y => sliceG 9 (fun x : Nat × Ins => cells9 x.2) pre y) (fun pre y => [(ba, ob [.int .i64 (endOf pre)] 3), (bo, ob [sliceV pre y] 51)] ++ sliceM 35 y)
    (fun _ _ _ => False) (fun _ _ _ => []) (fun pre y => by cases y <;> rfl) (fun _ _ _ => rfl) none (by exact rfl) (by exact rfl) ?_ ?_ ?_
  · rintro l w1 W rec pre ⟨k, x⟩ y hw1 hA hG ⟨r, hr⟩
    obtain ⟨_, hk, _, hok, hchk, _, _⟩ := rows_at pre _ _ k x r (bytes_all code) hr
    rw [bytesOf_length] at hk
    have hlen : pre.length < (rows (bytesOf code) 0).length := by rw [hr, List.length_append, List.length_cons]; omega
    have hsz := size_S x hok hchk
    have hadd : ar .add .i64 (k : Int) x.enc.length = ((k + x.enc.length : Nat) : Int) := wrap_nat (by have h2 := (Ins.enc_bytes hchk).2.2; omega)
    rcases y with _ | ⟨b0, l0, cap⟩
    · rw [show sliceV pre none = .slice none 0 0 from rfl, show sliceM 35 none = [] from rfl]
      simp only [pe, encR, List.cons_append, List.nil_append]
      repeat (first | refine Af ?_ | refine Ac ?_ | refine Aa ?_ | refine Ae ?_ | refine Ad ?_ | refine Ag ?_ | refine Ao ?_ | refine Ak 2 ?_ | refine Al 0 ?_ | refine Al 2 ?_ | refine Ab 0 ?_ | refine Ab 3 ?_ | refine Ab 4 ?_ | refine Aq (fun _ => ?_) | refine Ai ?_ | refine Ar ?_ | refine L.buildS (c := fun _ => ?_) | refine D.begin 3 (by exact rfl) (by simp only [hset]; rfl) (by exact rfl) ?_ | refine L.buildS (by exact rfl) (by exact rfl) (by exact rfl) (by exact rfl) (by exact rfl) (by exact rfl) (by exact rfl) (by simp only [List.flatMap_cons, List.flatMap_nil, cl, Value.cells, List.append_nil]; rfl) (fun _ => ?_) | (refine L.append1N 0 (by exact rfl) (by exact rfl) (by exact rfl) (by exact rfl) (by exact rfl) (by exact rfl) (by exact rfl) ?_; intro b1 l1 cap1 g1 g2 g3 g4) | refine L.callQ hsz (by exact rfl) (by exact rfl) (fun _ _ => trivial) ?_)
      obtain rfl : pre = [] := hG
      refine D.next (some (b1, l1, cap1)) [3, 4, 0, 5] ⟨g1, g2, g3, ?_⟩ (by decide) ?_
      · show l1.take (1 * 9) = _; rw [g4]; rfl
      · rw [endOf_snoc]; rfl
    · rw [show sliceV pre (some (b0, l0, cap)) = .slice (some ⟨b0, 0, none⟩) pre.length cap from rfl, show sliceM 35 (some (b0, l0, cap)) = [(b0, ob l0 35)] from rfl]
      simp only [pe, encR, List.cons_append, List.nil_append]
      obtain ⟨f1, f2, f3, f4⟩ := hG
      have hlen2 : pre.length < 1000000 := by have := rows_length (bytesOf code) 0; rw [bytesOf_length] at this; omega
      have f5 : pre.length + 1 ≤ maxLen := by unfold maxLen; omega
      repeat (first | refine Af ?_ | refine Ac ?_ | refine Aa ?_ | refine Ae ?_ | refine Ad ?_ | refine Ag ?_ | refine Ao ?_ | refine Ak 2 ?_ | refine Al 0 ?_ | refine Al 1 ?_ | refine Ab 0 ?_ | refine Ab 2 ?_ | refine Ab 3 ?_ | refine Aq (fun _ => ?_) | refine Ai ?_ | refine Ar ?_ | refine Bc ?_ | refine L.buildS (c := fun _ => ?_) | refine D.begin 4 (by exact rfl) (by simp only [hset]; rfl) (by exact rfl) ?_ | refine L.buildS (by exact rfl) (by exact rfl) (by exact rfl) (by exact rfl) (by exact rfl) (by exact rfl) (by exact rfl) (by simp only [List.flatMap_cons, List.flatMap_nil, cl, Value.cells, List.append_nil]; rfl) (fun _ => ?_) | (refine L.append1 4 0 (by exact rfl) (by exact rfl) (by exact rfl) (by exact rfl) (by exact rfl) f1 f2 f3 (by exact rfl) (by exact rfl) f5 (by omega) ?_; intro b1 l1 cap1 g1 g2 g3 g4; simp only [hrep]) | refine L.callQ hsz (by exact rfl) (by exact rfl) (fun _ _ => trivial) ?_)
      refine D.next (some (b1, l1, cap1)) [2, 3, 4, 5] ⟨g1, by simpa using g2, g3, ?_⟩ (by decide) ?_
      · rw [List.length_append]; show l1.take ((pre.length + 1) * 9) = _; rw [g4, f4, List.flatMap_append]; rfl
      · rw [endOf_snoc]; unfold sliceV sliceM; simp only [List.length_append]; rfl
  · intro Db xs y hS hG
    have hX : (rows (bytesOf code) 0).map (·.2) = xs.map (·.2) := by rw [hS]
    have hG' : sliceG 9 cells9 ((rows (bytesOf code) 0).map (·.2)) y := by
      rw [hX]
      rcases y with _ | ⟨b0, l0, cap⟩
      · obtain rfl : xs = [] := hG
        rfl
      · obtain ⟨f1, f2, f3, f4⟩ := hG
        exact ⟨f1, by simpa using f2, f3, by rw [List.length_map, f4, List.flatMap_map]⟩
    have hV : sliceV xs y = sliceV ((rows (bytesOf code) 0).map (·.2)) y := by
      rw [hX]; rcases y with _ | ⟨b0, l0, cap⟩
      · rfl
      · unfold sliceV; simp
    rw [hV, hS]
    rcases y with _ | ⟨b0, l0, cap⟩
    · rw [show sliceM 35 none = [] from rfl]
      simp only [hdrop, List.cons_append, List.nil_append]
      by_cases ht : endOf (rows (bytesOf code) 0) < code.size
      · have hc : cm .lss (endOf (rows (bytesOf code) 0) : Int) code.size = true := cm_lo (by omega)
        have hi := dinst_S code _ ht hl
        rw [if_pos ht]
        generalize rdD ((bytesOf code).drop (endOf (rows (bytesOf code) 0))) = X at *
        obtain ⟨x, n, e⟩ := X
        simp only at hi ⊢
        repeat (first | refine Af ?_ | refine Ac ?_ | refine Aa ?_ | refine Ae ?_ | refine Ad ?_ | refine Ag ?_ | refine Ah ?_ | refine Ak 1 ?_ | refine Ak 2 ?_ | refine Ak 3 ?_ | refine Ab 0 ?_ | refine Bd ?_ | refine Aq (fun _ => ?_) | refine Am ?_ | refine L.lenS (c := ?_) | refine Ar ?_ | refine An ?_ | refine Av ?_ | refine Bc ?_ | exact D.endsQ | refine C.quiet (h := ?_) | (refine QL.step (v := ?_) (by exact rfl) (by exact rfl) ?_ ?_; rotate_left) | refine L.callQ hi (by exact rfl) (by exact rfl) (fun _ _ => trivial) ?_)
        refine D.retM (vs := [sliceV ((rows (bytesOf code) 0).map (·.2)) none, .int .i64 (endOf (rows (bytesOf code) 0)), .int .i64 e]) [Db] [1] (by exact rfl) (by decide) (by exact rfl) (RV.tmp rfl (RV.tmp rfl (RV.tmp rfl RV.nil))) (fun w' hw => Post.mk (is := []) hw (by decide) rfl ⟨none, hG', rfl, rfl⟩)
      · have hc : cm .lss (endOf (rows (bytesOf code) 0) : Int) code.size = false := cm_lo' (by omega)
        rw [if_neg ht]
        repeat (first | refine Af ?_ | refine Ac ?_ | refine Aa ?_ | refine Ae ?_ | refine Ad ?_ | refine Ag ?_ | refine Ah ?_ | refine Ak 1 ?_ | refine Ak 2 ?_ | refine Aj ?_ | refine L.lenS (c := ?_) | refine Ar ?_ | refine An ?_ | refine Ap ?_ | refine Bc ?_ | exact D.endsQ | refine C.quiet (h := ?_) | (refine QL.step (v := ?_) (by exact rfl) (by exact rfl) ?_ ?_; rotate_left))
        refine D.retM (vs := [sliceV ((rows (bytesOf code) 0).map (·.2)) none, .int .i64 (endOf (rows (bytesOf code) 0)), .int .i64 0]) [Db] [0] (by exact rfl) (by decide) (by exact rfl) (RV.tmp rfl (RV.tmp rfl (RV.tmp rfl RV.nil))) (fun w' hw => Post.mk (is := []) hw (by decide) rfl ⟨none, hG', rfl, rfl⟩)
    · rw [show sliceM 35 (some (b0, l0, cap)) = [(b0, ob l0 35)] from rfl]
      simp only [hdrop, List.cons_append, List.nil_append]
      by_cases ht : endOf (rows (bytesOf code) 0) < code.size
      · have hc : cm .lss (endOf (rows (bytesOf code) 0) : Int) code.size = true := cm_lo (by omega)
        have hi := dinst_S code _ ht hl
        rw [if_pos ht]
        generalize rdD ((bytesOf code).drop (endOf (rows (bytesOf code) 0))) = X at *
        obtain ⟨x, n, e⟩ := X
        simp only at hi ⊢
        repeat (first | refine Af ?_ | refine Ac ?_ | refine Aa ?_ | refine Ae ?_ | refine Ad ?_ | refine Ag ?_ | refine Ah ?_ | refine Ak 1 ?_ | refine Ak 2 ?_ | refine Ak 3 ?_ | refine Ab 0 ?_ | refine Bd ?_ | refine Aq (fun _ => ?_) | refine Am ?_ | refine L.lenS (c := ?_) | refine Ar ?_ | refine An ?_ | refine Av ?_ | refine Bc ?_ | exact D.endsQ | refine C.quiet (h := ?_) | (refine QL.step (v := ?_) (by exact rfl) (by exact rfl) ?_ ?_; rotate_left) | refine L.callQ hi (by exact rfl) (by exact rfl) (fun _ _ => trivial) ?_)
        refine D.retM (vs := [sliceV ((rows (bytesOf code) 0).map (·.2)) (some (b0, l0, cap)), .int .i64 (endOf (rows (bytesOf code) 0)), .int .i64 e]) [Db] [1] (by exact rfl) (by decide) (by exact rfl) (RV.tmp rfl (RV.tmp rfl (RV.tmp rfl RV.nil))) (fun w' hw => Post.mk (is := [3]) hw (by decide) rfl ⟨some (b0, l0, cap), hG', rfl, rfl⟩)
      · have hc : cm .lss (endOf (rows (bytesOf code) 0) : Int) code.size = false := cm_lo' (by omega)
        rw [if_neg ht]
        repeat (first | refine Af ?_ | refine Ac ?_ | refine Aa ?_ | refine Ae ?_ | refine Ad ?_ | refine Ag ?_ | refine Ah ?_ | refine Ak 1 ?_ | refine Ak 2 ?_ | refine Aj ?_ | refine L.lenS (c := ?_) | refine Ar ?_ | refine An ?_ | refine Ap ?_ | refine Bc ?_ | exact D.endsQ | refine C.quiet (h := ?_) | (refine QL.step (v := ?_) (by exact rfl) (by exact rfl) ?_ ?_; rotate_left))
        refine D.retM (vs := [sliceV ((rows (bytesOf code) 0).map (·.2)) (some (b0, l0, cap)), .int .i64 (endOf (rows (bytesOf code) 0)), .int .i64 0]) [Db] [0] (by exact rfl) (by decide) (by exact rfl) (RV.tmp rfl (RV.tmp rfl (RV.tmp rfl RV.nil))) (fun w' hw => Post.mk (is := [2]) hw (by decide) rfl ⟨some (b0, l0, cap), hG', rfl, rfl⟩)
  · intro Db c pre y _ h; exact h.elim
end Go.Proofs.Ytbcaelhchmoigaa
namespace Go.Proofs.Ytbcaelhchmoigaa
open Go.RowKit Calm SL
attribute [local irreducible] SL.L SL.C SL.D SL.N SL.H SL.QL
end Go.Proofs.Ytbcaelhchmoigaa
