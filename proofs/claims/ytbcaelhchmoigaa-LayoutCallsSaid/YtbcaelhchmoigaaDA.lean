import Derived.Test.YtbcaelhchmoigaaMG
import Derived.Test.YtbcaelhchmoigaaSep
import Derived.Test.YtbcaelhchmoigaaMH
set_option maxHeartbeats 2000000
set_option maxRecDepth 100000
set_option linter.unusedVariables false
set_option linter.unusedSimpArgs false
namespace Go.Proofs.Ytbcaelhchmoigaa
open Go.RowKit Calm SL
attribute [local irreducible] SL.L SL.C SL.D SL.N
def mapR (es : Array MapEntry) (k : Nat) : Value → Hp → Prop := fun v B => ∃ n, v = .map (some n) ∧ B = [(n, .map es k)]
theorem takers_S : Ctr Try.prog 100 [] [] tt (mapR takersE 12) := by
  intro w _ _ _
  refine (takers_any w).mono ?_
  rintro e w' ⟨rfl, rfl⟩
  exact ⟨_, _, rfl, ⟨w.heap.size, rfl, rfl⟩, (At.start w).alloc _⟩
def groupsR : Value → Hp → Prop := fun v B => ∃ n es k, v = .map (some n) ∧ B = [(n, .map es k)] ∧ GroupsE es
theorem groups_S : Ctr Try.prog 101 [] [] tt groupsR := by
  intro w _ _ _
  refine (groups_any w).mono ?_
  rintro e w' ⟨rfl, es, k, hg, rfl⟩
  exact ⟨_, _, rfl, ⟨w.heap.size, es, k, rfl, rfl, hg⟩, ((At.start w).drew).alloc _⟩
theorem meth_pair (op : Int) (w : World) : (method (Try.prog.types.size + Made.depth) 129 (.int .i64 op) "keysmith/decode.take").run Try.prog w = .ok (117, .int .i64 op) w := by kernel_rfl
theorem meth_moves (op : Int) (st : Bool) (w : World) : (method (Try.prog.types.size + Made.depth) 131 (.agg #[.int .i64 op, .bool st]) "keysmith/decode.take").run Try.prog w = .ok (118, .agg #[.int .i64 op, .bool st]) w := by kernel_rfl
theorem pair_S (op : Int) (b : Nat) (s : ByteArray) (c : Cur) (r : Int) (h16 : s.size ≤ 1000000) (hs : Suf s c) (hr : Byte r) :
    Ctr Try.prog 117 [.int .i64 op, .pointer (some ⟨b, 0, none⟩), .int .i64 r] [(b, cO s c)] tt (is (pairB op r (nx c).1 (nx c).2).1.V [(b, cO s (pairB op r (nx c).1 (nx c).2).2)]) :=
  spec_cur hs (fun w h => dpair_any op b s c r w h16 h hr)
theorem moves_load_S (op : Int) (b : Nat) (s : ByteArray) (c : Cur) (r : Int) (h16 : s.size ≤ 1000000) (hs : Suf s c) (hr : Byte r) (hop : op ≠ 4) :
    Ctr Try.prog 118 [.agg #[.int .i64 op, .bool false], .pointer (some ⟨b, 0, none⟩), .int .i64 r] [(b, cO s c)] tt (is (movD op r (nx c).1 (nx c).2).1.V [(b, cO s (movD op r (nx c).1 (nx c).2).2)]) :=
  spec_cur hs (fun w h => dmoves_load op b s c r w h16 h hr hop)
theorem moves_store_S (b : Nat) (s : ByteArray) (c : Cur) (r : Int) (h16 : s.size ≤ 1000000) (hs : Suf s c) (hr : Byte r) :
    Ctr Try.prog 118 [.agg #[.int .i64 4, .bool true], .pointer (some ⟨b, 0, none⟩), .int .i64 r] [(b, cO s c)] tt (is (storeB r (nx c).1 (nx c).2).1.V [(b, cO s (storeB r (nx c).1 (nx c).2).2)]) := by
  unfold storeB
  cases h3 : ((nx c).1 / 64 == 3)
  · rw [if_neg (by simpa using h3)]; exact spec_cur hs (fun w h => dmoves_store b s c r w h16 h hr h3)
  · rw [if_pos (by simpa using h3)]; exact spec_cur hs (fun w h => dmoves_mov b s c r w h16 h hr h3)
def hits (x : Int) (v : Value) : Prop := ∀ (w : World) (m : Nat), w.heap[m]? = some (.map takersE 12) → (Instr.lookup 126 (.map (some m)) (.int .i64 x) true).run Try.prog w = .ok v w
theorem wide_pair (op : Int) (b : Nat) (s : ByteArray) (c : Cur) (r : Int) (h16 : s.size ≤ 1000000) (hs : Suf s c) (hr : Byte r) (hk : hits (nx c).1 (.tuple #[pairV op, .bool true])) :
    Ctr Try.prog 97 [.pointer (some ⟨b, 0, none⟩), .int .i64 r] [(b, cO s c)] tt (is (pairB op r (nx (nx c).2).1 (nx (nx c).2).2).1.V [(b, cO s (pairB op r (nx (nx c).2).1 (nx (nx c).2).2).2)]) := by
  refine Ctr.enter Try.func97 Try.ntmps97 rfl rfl (fun w _ => ?_)
  repeat (first | refine Af ?_ | refine Ac ?_ | refine Aa ?_ | refine Ae ?_ | refine Ad ?_ | refine Ag ?_ | refine Aq (fun _ => ?_) | refine L.call1 1 (byte_S b s c h16 hs) (by exact rfl) (by exact rfl) (by exact rfl) (fun _ _ => trivial) (by simp only [hset]; rfl) ?_)
  refine L.callP [] takers_S (by exact rfl) (by exact rfl) (by exact rfl) (by decide) (fun _ _ => trivial) ?_
  rintro v B ⟨n, rfl, rfl⟩
  rw [hdrop_nil, List.singleton_append]
  repeat (first | refine Af ?_ | refine Ac ?_ | refine Aa ?_ | refine Ae ?_ | refine Ad ?_ | refine Ag ?_ | refine Al 1 ?_ | refine Ab 1 ?_ | refine Bd ?_ | refine Am ?_ | refine Be ?_ | refine Ai ?_ | refine Ar ?_ | refine An ?_ | refine Ap ?_ | refine L.assertY (c := ?_) | refine L.assertN (c := ?_) | refine L.lookupR 0 (by exact rfl) (by exact rfl) (by exact rfl) (by exact rfl) (fun w h => hk w n h) ?_ | refine L.meth1 2 (meth_pair op) (pair_S op b s (nx c).2 r h16 hs.n1 hr) (by exact rfl) (by exact rfl) (by exact rfl) (by exact rfl) (fun _ _ => trivial) (by simp only [hset]; rfl) ?_)
  refine D.ret (vs := [(pairB op r (nx (nx c).2).1 (nx (nx c).2).2).1.V]) ?_ ?_
  · exact RV.cellA 1 rfl rfl rfl rfl rfl RV.nil
  · intro w' hw
    exact Post.mk (is := [2]) hw (by decide) rfl ⟨rfl, rfl⟩
theorem wide_moves (op : Int) (st : Bool) (X : Ins × Cur) (b : Nat) (s : ByteArray) (c : Cur) (r : Int) (h16 : s.size ≤ 1000000) (hs : Suf s c) (hk : hits (nx c).1 (.tuple #[movesV op st, .bool true]))
    (hX : Ctr Try.prog 118 [.agg #[.int .i64 op, .bool st], .pointer (some ⟨b, 0, none⟩), .int .i64 r] [(b, cO s (nx c).2)] tt (is X.1.V [(b, cO s X.2)])) :
    Ctr Try.prog 97 [.pointer (some ⟨b, 0, none⟩), .int .i64 r] [(b, cO s c)] tt (is X.1.V [(b, cO s X.2)]) := by
  refine Ctr.enter Try.func97 Try.ntmps97 rfl rfl (fun w _ => ?_)
  repeat (first | refine Af ?_ | refine Ac ?_ | refine Aa ?_ | refine Ae ?_ | refine Ad ?_ | refine Ag ?_ | refine Aq (fun _ => ?_) | refine L.call1 1 (byte_S b s c h16 hs) (by exact rfl) (by exact rfl) (by exact rfl) (fun _ _ => trivial) (by simp only [hset]; rfl) ?_)
  refine L.callP [] takers_S (by exact rfl) (by exact rfl) (by exact rfl) (by decide) (fun _ _ => trivial) ?_
  rintro v B ⟨n, rfl, rfl⟩
  rw [hdrop_nil, List.singleton_append]
  repeat (first | refine Af ?_ | refine Ac ?_ | refine Aa ?_ | refine Ae ?_ | refine Ad ?_ | refine Ag ?_ | refine Al 1 ?_ | refine Ab 1 ?_ | refine Bd ?_ | refine Am ?_ | refine Ax ?_ | refine Ai ?_ | refine Ar ?_ | refine An ?_ | refine Ap ?_ | refine L.assertY (c := ?_) | refine L.assertN (c := ?_) | refine L.lookupR 0 (by exact rfl) (by exact rfl) (by exact rfl) (by exact rfl) (fun w h => hk w n h) ?_ | refine L.meth1 2 (meth_moves op st) hX (by exact rfl) (by exact rfl) (by exact rfl) (by exact rfl) (fun _ _ => trivial) (by simp only [hset]; rfl) ?_)
  refine D.ret (vs := [X.1.V]) ?_ ?_
  · exact RV.cellA 1 rfl rfl rfl rfl rfl RV.nil
  · intro w' hw
    exact Post.mk (is := [2]) hw (by decide) rfl ⟨rfl, rfl⟩
theorem wide_imm (b : Nat) (s : ByteArray) (c : Cur) (r : Int) (h16 : s.size ≤ 1000000) (hs : Suf s c) (hr : Byte r) (hk : hits (nx c).1 (.tuple #[.nilIface, .bool false])) (h23 : (nx c).1 / 8 = 23) :
    Ctr Try.prog 97 [.pointer (some ⟨b, 0, none⟩), .int .i64 r] [(b, cO s c)] tt (is (immB r (nx c).1 (nx c).2).1.V [(b, cO s (immB r (nx c).1 (nx c).2).2)]) := by
  have hb := hs.byte
  have h1 : ar .and .i64 (nx c).1 248 = (nx c).1 / 8 * 8 := dand248 hb
  have h2 : cm .eql ((nx c).1 / 8 * 8) 184 = true := by rw [h23]; rfl
  clear h23
  refine Ctr.enter Try.func97 Try.ntmps97 rfl rfl (fun w _ => ?_)
  repeat (first | refine Af ?_ | refine Ac ?_ | refine Aa ?_ | refine Ae ?_ | refine Ad ?_ | refine Ag ?_ | refine Aq (fun _ => ?_) | refine L.call1 1 (byte_S b s c h16 hs) (by exact rfl) (by exact rfl) (by exact rfl) (fun _ _ => trivial) (by simp only [hset]; rfl) ?_)
  refine L.callP [] takers_S (by exact rfl) (by exact rfl) (by exact rfl) (by decide) (fun _ _ => trivial) ?_
  rintro v B ⟨n, rfl, rfl⟩
  rw [hdrop_nil, List.singleton_append]
  repeat (first | refine Af ?_ | refine Ac ?_ | refine Aa ?_ | refine Ae ?_ | refine Ad ?_ | refine Ag ?_ | refine Ah ?_ | refine Ao ?_ | refine Al 1 ?_ | refine Ab 1 ?_ | refine Bd ?_ | refine As ?_ | refine Am ?_ | refine Aj ?_ | refine Ai ?_ | refine Ar ?_ | refine An ?_ | refine L.lookupR 0 (by exact rfl) (by exact rfl) (by exact rfl) (by exact rfl) (fun w h => hk w n h) ?_ | refine L.callQ (last_S r (nx c).1 hr hb) (by exact rfl) (by exact rfl) (fun _ _ => trivial) ?_ | refine L.call1 2 (number_S 8 (by decide) b s (nx c).2 h16 hs.n1) (by exact rfl) (by exact rfl) (by exact rfl) (fun _ _ => trivial) (by simp only [hset]; rfl) ?_)
  refine D.ret (vs := [(immB r (nx c).1 (nx c).2).1.V]) ?_ ?_
  · exact RV.cellA 1 rfl rfl rfl rfl rfl RV.nil
  · intro w' hw
    exact Post.mk (is := [2]) hw (by decide) rfl ⟨rfl, rfl⟩
theorem cmov_look (x : Int) : ((lookI [⟨.int .i64 66, .int .i64 26, 0⟩, ⟨.int .i64 69, .int .i64 27, 1⟩] x).getD (.int .i64 0)) = .int .i64 (cmovOp x) := by
  unfold cmovOp
  by_cases h1 : x = 66
  · subst h1; rfl
  · by_cases h2 : x = 69
    · subst h2; rfl
    · simp [lookI, h1, h2]
theorem wide_cmov (b : Nat) (s : ByteArray) (c : Cur) (r : Int) (h16 : s.size ≤ 1000000) (hs : Suf s c) (hr : Byte r) (hk : hits (nx c).1 (.tuple #[.nilIface, .bool false])) (h15 : (nx c).1 = 15) :
    Ctr Try.prog 97 [.pointer (some ⟨b, 0, none⟩), .int .i64 r] [(b, cO s c)] tt
      (is (cmovB (nx (nx c).2).1 r (nx (nx (nx c).2).2).1 (nx (nx (nx c).2).2).2).1.V [(b, cO s (cmovB (nx (nx c).2).1 r (nx (nx (nx c).2).2).1 (nx (nx (nx c).2).2).2).2)]) := by
  have hb := hs.byte
  have hb2 := hs.n1.byte
  have hb3 := hs.n1.n1.byte
  have h1 : ar .and .i64 (nx c).1 248 = (nx c).1 / 8 * 8 := dand248 hb
  have h2 : cm .eql ((nx c).1 / 8 * 8) 184 = false := by rw [h15]; rfl
  have h3 : cm .eql (nx c).1 15 = true := by rw [h15]; rfl
  clear h15
  refine Ctr.enter Try.func97 Try.ntmps97 rfl rfl (fun w _ => ?_)
  repeat (first | refine Af ?_ | refine Ac ?_ | refine Aa ?_ | refine Ae ?_ | refine Ad ?_ | refine Ag ?_ | refine Aq (fun _ => ?_) | refine L.call1 1 (byte_S b s c h16 hs) (by exact rfl) (by exact rfl) (by exact rfl) (fun _ _ => trivial) (by simp only [hset]; rfl) ?_)
  refine L.callP [] takers_S (by exact rfl) (by exact rfl) (by exact rfl) (by decide) (fun _ _ => trivial) ?_
  rintro v B ⟨n, rfl, rfl⟩
  rw [hdrop_nil, List.singleton_append]
  repeat (first | refine Af ?_ | refine Ac ?_ | refine Aa ?_ | refine Ae ?_ | refine Ad ?_ | refine Ag ?_ | refine Ah ?_ | refine Ao ?_ | refine Al 2 ?_ | refine Ab 2 ?_ | refine Bd ?_ | refine As ?_ | refine Am ?_ | refine Aj ?_ | refine Ai ?_ | refine Ar ?_ | refine An ?_ | refine L.makeMap (c := fun _ => ?_) | refine L.lookupR 0 (by exact rfl) (by exact rfl) (by exact rfl) (by exact rfl) (fun w h => hk w n h) ?_ | refine L.insertI 0 (by exact rfl) (by exact rfl) (by exact rfl) (by exact rfl) (by exact rfl) (by exact rfl) (by simp only [hset, List.nil_append, List.cons_append]; rfl) ?_ | refine L.call1 3 (byte_S b s (nx c).2 h16 hs.n1) (by exact rfl) (by exact rfl) (by exact rfl) (fun _ _ => trivial) (by simp only [hset]; rfl) ?_ | refine L.call1 3 (byte_S b s (nx (nx c).2).2 h16 hs.n1.n1) (by exact rfl) (by exact rfl) (by exact rfl) (fun _ _ => trivial) (by simp only [hset]; rfl) ?_ | refine L.lookupI 0 (by exact rfl) (by exact rfl) (by exact rfl) (by exact rfl) (by exact rfl) (cmov_look (nx (nx c).2).1) ?_ | refine L.callQ (mid_S r (nx (nx (nx c).2).2).1 hr hb3) (by exact rfl) (by exact rfl) (fun _ _ => trivial) ?_ | refine L.callQ (last_S r (nx (nx (nx c).2).2).1 hr hb3) (by exact rfl) (by exact rfl) (fun _ _ => trivial) ?_)
  refine D.ret (vs := [(cmovB (nx (nx c).2).1 r (nx (nx (nx c).2).2).1 (nx (nx (nx c).2).2).2).1.V]) ?_ ?_
  · exact RV.cellA 2 rfl rfl rfl rfl rfl RV.nil
  · intro w' hw
    exact Post.mk (is := [3]) hw (by decide) rfl ⟨rfl, rfl⟩
theorem grp_grpOp (b m : Int) : grp b m = ((grpOp b m).1, ((grpOp b m).2 : Int)) := by
  unfold grp grpOp
  by_cases h1 : b = 129
  · subst h1
    by_cases a0 : m = 0
    · subst a0; rfl
    · by_cases a4 : m = 4
      · subst a4; rfl
      · by_cases a5 : m = 5
        · subst a5; rfl
        · by_cases a7 : m = 7
          · subst a7; rfl
          · simp [a0, a4, a5, a7]
  · by_cases h2 : b = 247
    · subst h2
      by_cases a3 : m = 3
      · subst a3; rfl
      · by_cases a2 : m = 2
        · subst a2; rfl
        · simp [a3, a2]
    · by_cases h3 : b = 193
      · subst h3
        by_cases a4 : m = 4
        · subst a4; rfl
        · by_cases a5 : m = 5
          · subst a5; rfl
          · simp [a4, a5]
      · simp [h1, h2, h3]
theorem wide_grp0 (g : Int × Nat) (b : Nat) (s : ByteArray) (c : Cur) (r : Int) (h16 : s.size ≤ 1000000) (hs : Suf s c) (hr : Byte r) (hk : hits (nx c).1 (.tuple #[.nilIface, .bool false])) (h15 : (nx c).1 ≠ 15) (h23 : (nx c).1 / 8 ≠ 23)
    (hg : grp (nx c).1 ((nx (nx c).2).1 / 8 % 8) = (g.1, (g.2 : Int))) (hg2 : g.2 = 0) :
    Ctr Try.prog 97 [.pointer (some ⟨b, 0, none⟩), .int .i64 r] [(b, cO s c)] tt
      (is (grpC g r (nx (nx c).2).1 (nx (nx c).2).2).1.V [(b, cO s (grpC g r (nx (nx c).2).1 (nx (nx c).2).2).2)]) := by
  have hb := hs.byte
  have hb2 := hs.n1.byte
  have h1 : ar .and .i64 (nx c).1 248 = (nx c).1 / 8 * 8 := dand248 hb
  have h2 : cm .eql ((nx c).1 / 8 * 8) 184 = false := by show ((nx c).1 / 8 * 8 == 184) = false; rw [beq_eq_false_iff_ne]; omega
  have h3 : cm .eql (nx c).1 15 = false := by show ((nx c).1 == 15) = false; rw [beq_eq_false_iff_ne]; exact h15
  have h4 : ar .shr .i64 (nx (nx c).2).1 3 = (nx (nx c).2).1 / 8 := Int.fdiv_eq_ediv_of_nonneg _ (by decide)
  have h5 : ar .and .i64 ((nx (nx c).2).1 / 8) 7 = (nx (nx c).2).1 / 8 % 8 := dand7 (by unfold Byte at *; omega)
  have h6 : cm .gtr (g.2 : Int) 0 = false := by rw [hg2]; rfl
  have eG : grpC g r (nx (nx c).2).1 (nx (nx c).2).2 = (⟨g.1, lastD r (nx (nx c).2).1, 0, 0, 0, 0, 0, 0, 0⟩, (nx (nx c).2).2) := by unfold grpC; rw [if_pos hg2]
  rw [eG]
  clear h15 h23 eG
  refine Ctr.enter Try.func97 Try.ntmps97 rfl rfl (fun w _ => ?_)
  repeat (first | refine Af ?_ | refine Ac ?_ | refine Aa ?_ | refine Ae ?_ | refine Ad ?_ | refine Ag ?_ | refine Aq (fun _ => ?_) | refine L.call1 1 (byte_S b s c h16 hs) (by exact rfl) (by exact rfl) (by exact rfl) (fun _ _ => trivial) (by simp only [hset]; rfl) ?_)
  refine L.callP [] takers_S (by exact rfl) (by exact rfl) (by exact rfl) (by decide) (fun _ _ => trivial) ?_
  rintro v B ⟨n, rfl, rfl⟩
  rw [hdrop_nil, List.singleton_append]
  repeat (first | refine Af ?_ | refine Ac ?_ | refine Aa ?_ | refine Ae ?_ | refine Ad ?_ | refine Ag ?_ | refine Ah ?_ | refine Ao ?_ | refine Bd ?_ | refine Aj ?_ | refine Ai ?_ | refine L.lookupR 0 (by exact rfl) (by exact rfl) (by exact rfl) (by exact rfl) (fun w h => hk w n h) ?_ | refine L.call1 2 (byte_S b s (nx c).2 h16 hs.n1) (by exact rfl) (by exact rfl) (by exact rfl) (fun _ _ => trivial) (by simp only [hset]; rfl) ?_)
  refine L.callP [] groups_S (by exact rfl) (by exact rfl) (by exact rfl) (by decide) (fun _ _ => trivial) ?_
  rintro v B ⟨n', es, k, rfl, rfl, hes⟩
  rw [hdrop_nil, List.singleton_append]
  repeat (first | refine Af ?_ | refine Aa ?_ | refine Ae ?_ | refine Ad ?_ | refine Ao ?_ | refine Ab 0 ?_ | refine As ?_ | refine Aq (fun _ => ?_) | refine L.lookupR 0 (by exact rfl) (by exact rfl) (by exact rfl) (by exact rfl) (fun w h => by have := look_group w n' k es (nx c).1 ((nx (nx c).2).1 / 8 % 8) hes h; rw [hg] at this; exact this) ?_)
  refine C.draw (by kernel_rfl) ?_
  refine N.take 0 (by exact rfl) (Clm.fieldAddr (by exact rfl)) (by exact rfl) (by kernel_rfl) (by kernel_rfl) (by kernel_rfl) (fun _ _ _ h => h) (by exact rfl) ?_
  refine N.take 2 (by exact rfl) (Clm.move (by exact rfl)) (by exact rfl) (by kernel_rfl) (by kernel_rfl) (by kernel_rfl) (fun _ _ _ h => h) (by exact rfl) ?_
  refine N.take 3 (by exact rfl) (Clm.move (by exact rfl)) (by exact rfl) (by kernel_rfl) (by kernel_rfl) (by kernel_rfl) (fun _ _ _ h => h) (by exact rfl) ?_
  refine N.two (i := 1) (j := 4) (by kernel_rfl) (by exact rfl) (by exact rfl) (by exact rfl) (by exact rfl) ?_ ?_
  all_goals
    repeat (first | refine Af ?_ | refine Ac ?_ | refine Aa ?_ | refine Ae ?_ | refine Ah ?_ | refine Ay ?_ | refine Ak 0 ?_ | refine Al 3 ?_ | refine Ab 3 ?_ | refine As ?_ | refine Aj ?_ | refine Ar ?_ | refine An ?_ | refine Ap ?_ | refine D.any ?_ | refine N.fin (h := ?_) | refine N.one (i := 1) (h := ?_) | refine N.one (i := 4) (h := ?_) | refine N.one (i := 5) (h := ?_) | refine N.one (i := 6) (h := ?_) | refine L.callQ (last_S r (nx (nx c).2).1 hr hb2) (by exact rfl) (by exact rfl) (fun _ _ => trivial) ?_)
    refine D.ret (vs := [(⟨g.1, lastD r (nx (nx c).2).1, 0, 0, 0, 0, 0, 0, 0⟩ : Ins).V]) ?_ ?_
    · exact RV.cellA 3 rfl rfl rfl rfl rfl RV.nil
    · intro w' hw
      exact Post.mk (is := [4]) hw (by decide) rfl ⟨rfl, rfl⟩
theorem wide_grpk (g : Int × Nat) (b : Nat) (s : ByteArray) (c : Cur) (r : Int) (h16 : s.size ≤ 1000000) (hs : Suf s c) (hr : Byte r) (hk : hits (nx c).1 (.tuple #[.nilIface, .bool false])) (h15 : (nx c).1 ≠ 15) (h23 : (nx c).1 / 8 ≠ 23)
    (hg : grp (nx c).1 ((nx (nx c).2).1 / 8 % 8) = (g.1, (g.2 : Int))) (hg2 : g.2 = 1 ∨ g.2 = 4) :
    Ctr Try.prog 97 [.pointer (some ⟨b, 0, none⟩), .int .i64 r] [(b, cO s c)] tt
      (is (grpC g r (nx (nx c).2).1 (nx (nx c).2).2).1.V [(b, cO s (grpC g r (nx (nx c).2).1 (nx (nx c).2).2).2)]) := by
  have hb := hs.byte
  have hb2 := hs.n1.byte
  have h1 : ar .and .i64 (nx c).1 248 = (nx c).1 / 8 * 8 := dand248 hb
  have h2 : cm .eql ((nx c).1 / 8 * 8) 184 = false := by show ((nx c).1 / 8 * 8 == 184) = false; rw [beq_eq_false_iff_ne]; omega
  have h3 : cm .eql (nx c).1 15 = false := by show ((nx c).1 == 15) = false; rw [beq_eq_false_iff_ne]; exact h15
  have h4 : ar .shr .i64 (nx (nx c).2).1 3 = (nx (nx c).2).1 / 8 := Int.fdiv_eq_ediv_of_nonneg _ (by decide)
  have h5 : ar .and .i64 ((nx (nx c).2).1 / 8) 7 = (nx (nx c).2).1 / 8 % 8 := dand7 (by unfold Byte at *; omega)
  have h6 : cm .gtr (g.2 : Int) 0 = true := by rcases hg2 with h | h <;> rw [h] <;> rfl
  have eG : grpC g r (nx (nx c).2).1 (nx (nx c).2).2 = (⟨g.1, lastD r (nx (nx c).2).1, 0, 0, 0, 0, 0, 0, (numD g.2 (nx (nx c).2).2).1⟩, (numD g.2 (nx (nx c).2).2).2) := by unfold grpC; rw [if_neg (by omega)]
  rw [eG]
  clear h15 h23 eG
  refine Ctr.enter Try.func97 Try.ntmps97 rfl rfl (fun w _ => ?_)
  repeat (first | refine Af ?_ | refine Ac ?_ | refine Aa ?_ | refine Ae ?_ | refine Ad ?_ | refine Ag ?_ | refine Aq (fun _ => ?_) | refine L.call1 1 (byte_S b s c h16 hs) (by exact rfl) (by exact rfl) (by exact rfl) (fun _ _ => trivial) (by simp only [hset]; rfl) ?_)
  refine L.callP [] takers_S (by exact rfl) (by exact rfl) (by exact rfl) (by decide) (fun _ _ => trivial) ?_
  rintro v B ⟨n, rfl, rfl⟩
  rw [hdrop_nil, List.singleton_append]
  repeat (first | refine Af ?_ | refine Ac ?_ | refine Aa ?_ | refine Ae ?_ | refine Ad ?_ | refine Ag ?_ | refine Ah ?_ | refine Ao ?_ | refine Bd ?_ | refine Aj ?_ | refine Ai ?_ | refine L.lookupR 0 (by exact rfl) (by exact rfl) (by exact rfl) (by exact rfl) (fun w h => hk w n h) ?_ | refine L.call1 2 (byte_S b s (nx c).2 h16 hs.n1) (by exact rfl) (by exact rfl) (by exact rfl) (fun _ _ => trivial) (by simp only [hset]; rfl) ?_)
  refine L.callP [] groups_S (by exact rfl) (by exact rfl) (by exact rfl) (by decide) (fun _ _ => trivial) ?_
  rintro v B ⟨n', es, k, rfl, rfl, hes⟩
  rw [hdrop_nil, List.singleton_append]
  repeat (first | refine Af ?_ | refine Aa ?_ | refine Ae ?_ | refine Ad ?_ | refine Ao ?_ | refine Ab 0 ?_ | refine As ?_ | refine Aq (fun _ => ?_) | refine L.lookupR 0 (by exact rfl) (by exact rfl) (by exact rfl) (by exact rfl) (fun w h => by have := look_group w n' k es (nx c).1 ((nx (nx c).2).1 / 8 % 8) hes h; rw [hg] at this; exact this) ?_)
  refine C.draw (by kernel_rfl) ?_
  refine N.take 0 (by exact rfl) (Clm.fieldAddr (by exact rfl)) (by exact rfl) (by kernel_rfl) (by kernel_rfl) (by kernel_rfl) (fun _ _ _ h => h) (by exact rfl) ?_
  refine N.take 2 (by exact rfl) (Clm.move (by exact rfl)) (by exact rfl) (by kernel_rfl) (by kernel_rfl) (by kernel_rfl) (fun _ _ _ h => h) (by exact rfl) ?_
  refine N.take 3 (by exact rfl) (Clm.move (by exact rfl)) (by exact rfl) (by kernel_rfl) (by kernel_rfl) (by kernel_rfl) (fun _ _ _ h => h) (by exact rfl) ?_
  refine N.two (i := 1) (j := 4) (by kernel_rfl) (by exact rfl) (by exact rfl) (by exact rfl) (by exact rfl) ?_ ?_
  all_goals
    repeat (first | refine Af ?_ | refine Ac ?_ | refine Aa ?_ | refine Ae ?_ | refine Ad ?_ | refine Ah ?_ | refine Ay ?_ | refine Ak 0 ?_ | refine Al 3 ?_ | refine Ab 3 ?_ | refine As ?_ | refine Am ?_ | refine Ar ?_ | refine An ?_ | refine D.any ?_ | refine N.fin (h := ?_) | refine N.one (i := 1) (h := ?_) | refine N.one (i := 4) (h := ?_) | refine N.one (i := 5) (h := ?_) | refine N.one (i := 6) (h := ?_) | refine L.callQ (last_S r (nx (nx c).2).1 hr hb2) (by exact rfl) (by exact rfl) (fun _ _ => trivial) ?_ | refine L.call1 4 (number_S g.2 (by omega) b s (nx (nx c).2).2 h16 hs.n1.n1) (by exact rfl) (by exact rfl) (by exact rfl) (fun _ _ => trivial) (by simp only [hset]; rfl) ?_)
    refine D.ret (vs := [(⟨g.1, lastD r (nx (nx c).2).1, 0, 0, 0, 0, 0, 0, (numD g.2 (nx (nx c).2).2).1⟩ : Ins).V]) ?_ ?_
    · exact RV.cellA 3 rfl rfl rfl rfl rfl RV.nil
    · intro w' hw
      exact Post.mk (is := [4]) hw (by decide) rfl ⟨rfl, rfl⟩
theorem wide_S (b : Nat) (s : ByteArray) (c : Cur) (r : Int) (h16 : s.size ≤ 1000000) (hs : Suf s c) (hr : Byte r) :
    Ctr Try.prog 97 [.pointer (some ⟨b, 0, none⟩), .int .i64 r] [(b, cO s c)] tt (is (wideD r c).1.V [(b, cO s (wideD r c).2)]) := by
  have hb := hs.byte
  unfold wideD
  by_cases hk : isKey (nx c).1 = true
  · have hx : (nx c).1 = 1 ∨ (nx c).1 = 17 ∨ (nx c).1 = 41 ∨ (nx c).1 = 25 ∨ (nx c).1 = 33 ∨ (nx c).1 = 9 ∨ (nx c).1 = 49 ∨ (nx c).1 = 57 ∨ (nx c).1 = 133 ∨ (nx c).1 = 139 ∨ (nx c).1 = 137 ∨ (nx c).1 = 141 := by
      unfold isKey pairOp at hk
      simp only [Bool.or_eq_true, bne_iff_ne, beq_iff_eq] at hk
      repeat' split at hk
      all_goals omega
    rcases hx with hx | hx | hx | hx | hx | hx | hx | hx | hx | hx | hx | hx
    · rw [hx]; exact wide_pair 6 b s c r h16 hs hr (by rw [hx]; exact fun w m h => hit_1 w m h)
    · rw [hx]; exact wide_pair 7 b s c r h16 hs hr (by rw [hx]; exact fun w m h => hit_17 w m h)
    · rw [hx]; exact wide_pair 8 b s c r h16 hs hr (by rw [hx]; exact fun w m h => hit_41 w m h)
    · rw [hx]; exact wide_pair 9 b s c r h16 hs hr (by rw [hx]; exact fun w m h => hit_25 w m h)
    · rw [hx]; exact wide_pair 10 b s c r h16 hs hr (by rw [hx]; exact fun w m h => hit_33 w m h)
    · rw [hx]; exact wide_pair 11 b s c r h16 hs hr (by rw [hx]; exact fun w m h => hit_9 w m h)
    · rw [hx]; exact wide_pair 12 b s c r h16 hs hr (by rw [hx]; exact fun w m h => hit_49 w m h)
    · rw [hx]; exact wide_pair 13 b s c r h16 hs hr (by rw [hx]; exact fun w m h => hit_57 w m h)
    · rw [hx]; exact wide_pair 14 b s c r h16 hs hr (by rw [hx]; exact fun w m h => hit_133 w m h)
    · rw [hx]; exact wide_moves 3 false _ b s c r h16 hs (by rw [hx]; exact fun w m h => hit_139 w m h) (moves_load_S 3 b s (nx c).2 r h16 hs.n1 hr (by decide))
    · rw [hx]; exact wide_moves 4 true _ b s c r h16 hs (by rw [hx]; exact fun w m h => hit_137 w m h) (moves_store_S b s (nx c).2 r h16 hs.n1 hr)
    · rw [hx]; exact wide_moves 5 false _ b s c r h16 hs (by rw [hx]; exact fun w m h => hit_141 w m h) (moves_load_S 5 b s (nx c).2 r h16 hs.n1 hr (by decide))
  · simp only [Bool.not_eq_true] at hk
    have hmiss : hits (nx c).1 (.tuple #[.nilIface, .bool false]) := fun w m h => look_miss w m _ hb hk h
    have hk' := hk
    unfold isKey at hk'
    simp only [Bool.or_eq_false_iff, bne_eq_false_iff_eq, beq_eq_false_iff_ne] at hk'
    obtain ⟨⟨⟨k1, k2⟩, k3⟩, k4⟩ := hk'
    unfold wideB
    rw [if_neg (by rw [k1]; decide), if_neg k2, if_neg k4, if_neg k3]
    by_cases h23 : (nx c).1 / 8 = 23
    · rw [if_pos h23]; exact wide_imm b s c r h16 hs hr hmiss h23
    · rw [if_neg h23]
      by_cases h15 : (nx c).1 = 15
      · rw [if_pos h15]; exact wide_cmov b s c r h16 hs hr hmiss h15
      · rw [if_neg h15]
        have hg := grp_grpOp (nx c).1 ((nx (nx c).2).1 / 8 % 8)
        have h2 : (grpOp (nx c).1 ((nx (nx c).2).1 / 8 % 8)).2 = 0 ∨ (grpOp (nx c).1 ((nx (nx c).2).1 / 8 % 8)).2 = 1 ∨ (grpOp (nx c).1 ((nx (nx c).2).1 / 8 % 8)).2 = 4 := by
          unfold grpOp
          repeat' split
          all_goals simp
        rcases h2 with h2 | h2
        · exact wide_grp0 _ b s c r h16 hs hr hmiss h15 h23 hg h2
        · exact wide_grpk _ b s c r h16 hs hr hmiss h15 h23 hg h2
end Go.Proofs.Ytbcaelhchmoigaa
namespace Go.Proofs.Ytbcaelhchmoigaa
open Go.RowKit Calm SL
attribute [local irreducible] SL.L SL.C SL.D SL.N
theorem skip1_S (b : Nat) (s : ByteArray) (c : Cur) (h16 : s.size ≤ 1000000) (hs : Suf s c) : Ctr Try.prog 94 [.pointer (some ⟨b, 0, none⟩), .int .i64 1] [(b, cO s c)] tt (is (.pointer (some ⟨b, 0, none⟩)) [(b, cO s (nx c).2)]) :=
  spec_cur hs (fun w h => dskip_1 b s c w h16 h)
theorem skip3_S (b : Nat) (s : ByteArray) (c : Cur) (h16 : s.size ≤ 1000000) (hs : Suf s c) : Ctr Try.prog 94 [.pointer (some ⟨b, 0, none⟩), .int .i64 3] [(b, cO s c)] tt (is (.pointer (some ⟨b, 0, none⟩)) [(b, cO s (nx (nx (nx c).2).2).2)]) :=
  spec_cur hs (fun w h => dskip_3 b s c w h16 h)
theorem fin_ar (op : BinOp) (y : Int) (f : Int → Int) (h : ∀ i : Fin 256, ar op .i64 ((i : Nat) : Int) y = f ((i : Nat) : Int)) {x : Int} (hx : 0 ≤ x ∧ x ≤ 255) : ar op .i64 x y = f x := by
  have := h ⟨x.toNat, by omega⟩
  simpa [Int.toNat_of_nonneg hx.1] using this
theorem or8_all : ∀ i : Fin 256, ar .or .i64 ((i : Nat) : Int) 8 = or8 ((i : Nat) : Int) := by decide +kernel
def xor1 (x : Int) : Int := if x % 2 = 0 then x + 1 else x - 1
theorem xor1_all : ∀ i : Fin 256, ar .xor .i64 ((i : Nat) : Int) 1 = xor1 ((i : Nat) : Int) := by decide +kernel
theorem any_b (l : List Int) : ∀ k, (0 ≤ (anyD l k).1.s ∧ (anyD l k).1.s ≤ 15) ∧ (0 ≤ (anyD l k).1.d ∧ (anyD l k).1.d ≤ 15) := by
  have hm : ∀ r rm, 0 ≤ midD r rm ∧ midD r rm ≤ 15 := by intro r rm; unfold midD; omega
  have hl : ∀ r rm, 0 ≤ lastD r rm ∧ lastD r rm ≤ 15 := by intro r rm; unfold lastD; omega
  have hz : (0 : Int) ≤ 0 ∧ (0 : Int) ≤ 15 := by omega
  have hmov : ∀ op r rm c, (0 ≤ (movD op r rm c).1.s ∧ (movD op r rm c).1.s ≤ 15) ∧ (0 ≤ (movD op r rm c).1.d ∧ (movD op r rm c).1.d ≤ 15) := by
    intro op r rm c; unfold movD; simp only
    constructor
    · split; exact hm _ _; exact hz
    · split; exact hz; exact hm _ _
  have hwide : ∀ r c, (0 ≤ (wideD r c).1.s ∧ (wideD r c).1.s ≤ 15) ∧ (0 ≤ (wideD r c).1.d ∧ (wideD r c).1.d ≤ 15) := by
    intro r c
    unfold wideD wideB
    repeat' split
    · unfold pairB; exact ⟨hm _ _, hl _ _⟩
    · exact hmov _ _ _ _
    · exact hmov _ _ _ _
    · unfold storeB; split
      · unfold pairB; exact ⟨hm _ _, hl _ _⟩
      · exact hmov _ _ _ _
    · unfold immB; exact ⟨hz, hl _ _⟩
    · unfold cmovB; exact ⟨hl _ _, hm _ _⟩
    · unfold grpC; split <;> exact ⟨hz, hl _ _⟩
  have ho : ∀ x, 0 ≤ x ∧ x ≤ 15 → 0 ≤ or8 x ∧ or8 x ≤ 15 := by intro x h; unfold or8; split <;> omega
  induction l with
  | nil => intro k; exact hwide 0 ([], true)
  | cons b r ih =>
    intro k
    rw [anyD]
    repeat' split
    · exact ⟨hz, hz⟩
    · exact ⟨by simp only; omega, hz⟩
    · exact ⟨hz, by simp only; omega⟩
    · have := ih k
      unfold up8; split
      · exact ⟨ho _ this.1, this.2⟩
      · exact ⟨this.1, ho _ this.2⟩
    · exact ⟨hz, hz⟩
    · exact ⟨hz, hz⟩
    · unfold mulD; exact ⟨by simp only; omega, hm _ _⟩
    · unfold chainD; exact ⟨hl _ _, hm _ _⟩
    · unfold chainD; exact ⟨hl _ _, hm _ _⟩
    · exact hwide _ _
theorem jcc_look (x : Int) : ((lookI [⟨.int .i64 133, .int .i64 31, 0⟩, ⟨.int .i64 130, .int .i64 32, 1⟩] x).getD (.int .i64 0)) = .int .i64 (jccOp x) := by
  unfold jccOp
  by_cases h1 : x = 133
  · subst h1; rfl
  · by_cases h2 : x = 130
    · subst h2; rfl
    · simp [lookI, h1, h2]
theorem any_ret (b : Nat) (s : ByteArray) (c : Cur) (h16 : s.size ≤ 1000000) (hs : Suf s c)  (y195 : (nx c).1 = 195) :
    Ctr Try.prog 82 [.pointer (some ⟨b, 0, none⟩)] [(b, cO s c)] tt (is (((⟨33, 0, 0, 0, 0, 0, 0, 0, 0⟩ : Ins), (nx c).2)).1.V [(b, cO s (((⟨33, 0, 0, 0, 0, 0, 0, 0, 0⟩ : Ins), (nx c).2)).2)]) := by
  have hb := hs.byte
  have a248 : ar .and .i64 (nx c).1 248 = (nx c).1 / 8 * 8 := dand248 hb
  have a7 : ar .and .i64 (nx c).1 7 = (nx c).1 % 8 := dand7 hb
  have c195 : cm .eql (nx c).1 195 = true := cm_yes (by omega)
  clear  y195
  refine Ctr.enter Try.func82 Try.ntmps82 rfl rfl (fun w _ => ?_)
  repeat (first | refine Af ?_ | refine Ac ?_ | refine Aa ?_ | refine Ae ?_ | refine Ad ?_ | refine Ag ?_ | refine Ah ?_ | refine Ab 0 ?_ | refine As ?_ | refine Aq (fun _ => ?_) | refine Am ?_ | refine Ai ?_ | refine An ?_ | refine Av ?_ | refine Bb ?_ | refine L.call1 1 (byte_S b s c h16 hs) (by exact rfl) (by exact rfl) (by exact rfl) (fun _ _ => trivial) (by simp only [hset]; rfl) ?_)
  refine D.ret (vs := [(((⟨33, 0, 0, 0, 0, 0, 0, 0, 0⟩ : Ins), (nx c).2)).1.V]) ?_ ?_
  · exact RV.cellA 0 rfl rfl rfl rfl rfl RV.nil
  · intro w' hw
    exact Post.mk (is := [1]) hw (by decide) rfl ⟨rfl, rfl⟩
theorem any_push (b : Nat) (s : ByteArray) (c : Cur) (h16 : s.size ≤ 1000000) (hs : Suf s c) (n195 : (nx c).1 ≠ 195) (y80 : (nx c).1 / 8 = 10) :
    Ctr Try.prog 82 [.pointer (some ⟨b, 0, none⟩)] [(b, cO s c)] tt (is (((⟨28, 0, (nx c).1 % 8, 0, 0, 0, 0, 0, 0⟩ : Ins), (nx c).2)).1.V [(b, cO s (((⟨28, 0, (nx c).1 % 8, 0, 0, 0, 0, 0, 0⟩ : Ins), (nx c).2)).2)]) := by
  have hb := hs.byte
  have a248 : ar .and .i64 (nx c).1 248 = (nx c).1 / 8 * 8 := dand248 hb
  have a7 : ar .and .i64 (nx c).1 7 = (nx c).1 % 8 := dand7 hb
  have c195 : cm .eql (nx c).1 195 = false := cm_no (by omega)
  have c80 : cm .eql ((nx c).1 / 8 * 8) 80 = true := cm_yes (by omega)
  clear n195 y80
  refine Ctr.enter Try.func82 Try.ntmps82 rfl rfl (fun w _ => ?_)
  repeat (first | refine Af ?_ | refine Ac ?_ | refine Aa ?_ | refine Ae ?_ | refine Ad ?_ | refine Ag ?_ | refine Ah ?_ | refine Ao ?_ | refine Ab 0 ?_ | refine As ?_ | refine Aq (fun _ => ?_) | refine Am ?_ | refine Aj ?_ | refine Ai ?_ | refine An ?_ | refine Av ?_ | refine Bb ?_ | refine L.call1 1 (byte_S b s c h16 hs) (by exact rfl) (by exact rfl) (by exact rfl) (fun _ _ => trivial) (by simp only [hset]; rfl) ?_)
  refine D.ret (vs := [(((⟨28, 0, (nx c).1 % 8, 0, 0, 0, 0, 0, 0⟩ : Ins), (nx c).2)).1.V]) ?_ ?_
  · exact RV.cellA 0 rfl rfl rfl rfl rfl RV.nil
  · intro w' hw
    exact Post.mk (is := [1]) hw (by decide) rfl ⟨rfl, rfl⟩
theorem any_pop (b : Nat) (s : ByteArray) (c : Cur) (h16 : s.size ≤ 1000000) (hs : Suf s c) (n195 : (nx c).1 ≠ 195) (n80 : (nx c).1 / 8 ≠ 10) (y88 : (nx c).1 / 8 = 11) :
    Ctr Try.prog 82 [.pointer (some ⟨b, 0, none⟩)] [(b, cO s c)] tt (is (((⟨29, (nx c).1 % 8, 0, 0, 0, 0, 0, 0, 0⟩ : Ins), (nx c).2)).1.V [(b, cO s (((⟨29, (nx c).1 % 8, 0, 0, 0, 0, 0, 0, 0⟩ : Ins), (nx c).2)).2)]) := by
  have hb := hs.byte
  have a248 : ar .and .i64 (nx c).1 248 = (nx c).1 / 8 * 8 := dand248 hb
  have a7 : ar .and .i64 (nx c).1 7 = (nx c).1 % 8 := dand7 hb
  have c195 : cm .eql (nx c).1 195 = false := cm_no (by omega)
  have c80 : cm .eql ((nx c).1 / 8 * 8) 80 = false := cm_no (by omega)
  have c88 : cm .eql ((nx c).1 / 8 * 8) 88 = true := cm_yes (by omega)
  clear n195 n80 y88
  refine Ctr.enter Try.func82 Try.ntmps82 rfl rfl (fun w _ => ?_)
  repeat (first | refine Af ?_ | refine Ac ?_ | refine Aa ?_ | refine Ae ?_ | refine Ad ?_ | refine Ag ?_ | refine Ah ?_ | refine Ao ?_ | refine Ab 0 ?_ | refine As ?_ | refine Aq (fun _ => ?_) | refine Am ?_ | refine Aj ?_ | refine Ai ?_ | refine An ?_ | refine Av ?_ | refine Bb ?_ | refine L.call1 1 (byte_S b s c h16 hs) (by exact rfl) (by exact rfl) (by exact rfl) (fun _ _ => trivial) (by simp only [hset]; rfl) ?_)
  refine D.ret (vs := [(((⟨29, (nx c).1 % 8, 0, 0, 0, 0, 0, 0, 0⟩ : Ins), (nx c).2)).1.V]) ?_ ?_
  · exact RV.cellA 0 rfl rfl rfl rfl rfl RV.nil
  · intro w' hw
    exact Post.mk (is := [1]) hw (by decide) rfl ⟨rfl, rfl⟩
theorem any_jmp (b : Nat) (s : ByteArray) (c : Cur) (h16 : s.size ≤ 1000000) (hs : Suf s c) (n195 : (nx c).1 ≠ 195) (n80 : (nx c).1 / 8 ≠ 10) (n88 : (nx c).1 / 8 ≠ 11) (n65 : (nx c).1 ≠ 65) (y233 : (nx c).1 = 233) :
    Ctr Try.prog 82 [.pointer (some ⟨b, 0, none⟩)] [(b, cO s c)] tt (is (((⟨30, 0, 0, 0, 0, 0, 0, 0, (numD 4 (nx c).2).1⟩ : Ins), (numD 4 (nx c).2).2)).1.V [(b, cO s (((⟨30, 0, 0, 0, 0, 0, 0, 0, (numD 4 (nx c).2).1⟩ : Ins), (numD 4 (nx c).2).2)).2)]) := by
  have hb := hs.byte
  have a248 : ar .and .i64 (nx c).1 248 = (nx c).1 / 8 * 8 := dand248 hb
  have a7 : ar .and .i64 (nx c).1 7 = (nx c).1 % 8 := dand7 hb
  have c195 : cm .eql (nx c).1 195 = false := cm_no (by omega)
  have c80 : cm .eql ((nx c).1 / 8 * 8) 80 = false := cm_no (by omega)
  have c88 : cm .eql ((nx c).1 / 8 * 8) 88 = false := cm_no (by omega)
  have c65 : cm .eql (nx c).1 65 = false := cm_no (by omega)
  have c233 : cm .eql (nx c).1 233 = true := cm_yes (by omega)
  clear n195 n80 n88 n65 y233
  refine Ctr.enter Try.func82 Try.ntmps82 rfl rfl (fun w _ => ?_)
  repeat (first | refine Af ?_ | refine Ac ?_ | refine Aa ?_ | refine Ae ?_ | refine Ad ?_ | refine Ag ?_ | refine Ah ?_ | refine Ao ?_ | refine Ab 0 ?_ | refine As ?_ | refine Aq (fun _ => ?_) | refine Am ?_ | refine Aj ?_ | refine Ai ?_ | refine An ?_ | refine Av ?_ | refine Bb ?_ | refine L.call1 1 (byte_S b s c h16 hs) (by exact rfl) (by exact rfl) (by exact rfl) (fun _ _ => trivial) (by simp only [hset]; rfl) ?_ | refine L.call1 1 (number_S 4 (by decide) b s (nx c).2 h16 hs.n1) (by exact rfl) (by exact rfl) (by exact rfl) (fun _ _ => trivial) (by simp only [hset]; rfl) ?_)
  refine D.ret (vs := [(((⟨30, 0, 0, 0, 0, 0, 0, 0, (numD 4 (nx c).2).1⟩ : Ins), (numD 4 (nx c).2).2)).1.V]) ?_ ?_
  · exact RV.cellA 0 rfl rfl rfl rfl rfl RV.nil
  · intro w' hw
    exact Post.mk (is := [1]) hw (by decide) rfl ⟨rfl, rfl⟩
theorem any_jcc (b : Nat) (s : ByteArray) (c : Cur) (h16 : s.size ≤ 1000000) (hs : Suf s c) (n195 : (nx c).1 ≠ 195) (n80 : (nx c).1 / 8 ≠ 10) (n88 : (nx c).1 / 8 ≠ 11) (n65 : (nx c).1 ≠ 65) (n233 : (nx c).1 ≠ 233) (y15 : (nx c).1 = 15) :
    Ctr Try.prog 82 [.pointer (some ⟨b, 0, none⟩)] [(b, cO s c)] tt (is (((⟨jccOp (nx (nx c).2).1, 0, 0, 0, 0, 0, 0, 0, (numD 4 (nx (nx c).2).2).1⟩ : Ins), (numD 4 (nx (nx c).2).2).2)).1.V [(b, cO s (((⟨jccOp (nx (nx c).2).1, 0, 0, 0, 0, 0, 0, 0, (numD 4 (nx (nx c).2).2).1⟩ : Ins), (numD 4 (nx (nx c).2).2).2)).2)]) := by
  have hb := hs.byte
  have a248 : ar .and .i64 (nx c).1 248 = (nx c).1 / 8 * 8 := dand248 hb
  have a7 : ar .and .i64 (nx c).1 7 = (nx c).1 % 8 := dand7 hb
  have c195 : cm .eql (nx c).1 195 = false := cm_no (by omega)
  have c80 : cm .eql ((nx c).1 / 8 * 8) 80 = false := cm_no (by omega)
  have c88 : cm .eql ((nx c).1 / 8 * 8) 88 = false := cm_no (by omega)
  have c65 : cm .eql (nx c).1 65 = false := cm_no (by omega)
  have c233 : cm .eql (nx c).1 233 = false := cm_no (by omega)
  have c15 : cm .eql (nx c).1 15 = true := cm_yes (by omega)
  clear n195 n80 n88 n65 n233 y15
  refine Ctr.enter Try.func82 Try.ntmps82 rfl rfl (fun w _ => ?_)
  repeat (first | refine Af ?_ | refine Ac ?_ | refine Aa ?_ | refine Ae ?_ | refine Ad ?_ | refine Ag ?_ | refine Ah ?_ | refine Ao ?_ | refine Ab 1 ?_ | refine As ?_ | refine Aq (fun _ => ?_) | refine Am ?_ | refine Aj ?_ | refine Ai ?_ | refine An ?_ | refine Av ?_ | refine Bb ?_ | refine L.makeMap (c := fun _ => ?_) | refine L.call1 1 (byte_S b s c h16 hs) (by exact rfl) (by exact rfl) (by exact rfl) (fun _ _ => trivial) (by simp only [hset]; rfl) ?_ | refine L.insertI 0 (by exact rfl) (by exact rfl) (by exact rfl) (by exact rfl) (by exact rfl) (by exact rfl) (by simp only [hset, List.nil_append, List.cons_append]; rfl) ?_ | refine L.call1 2 (byte_S b s (nx c).2 h16 hs.n1) (by exact rfl) (by exact rfl) (by exact rfl) (fun _ _ => trivial) (by simp only [hset]; rfl) ?_ | refine L.lookupI 0 (by exact rfl) (by exact rfl) (by exact rfl) (by exact rfl) (by exact rfl) (jcc_look (nx (nx c).2).1) ?_ | refine L.call1 2 (number_S 4 (by decide) b s (nx (nx c).2).2 h16 hs.n1.n1) (by exact rfl) (by exact rfl) (by exact rfl) (fun _ _ => trivial) (by simp only [hset]; rfl) ?_)
  refine D.ret (vs := [(((⟨jccOp (nx (nx c).2).1, 0, 0, 0, 0, 0, 0, 0, (numD 4 (nx (nx c).2).2).1⟩ : Ins), (numD 4 (nx (nx c).2).2).2)).1.V]) ?_ ?_
  · exact RV.cellA 1 rfl rfl rfl rfl rfl RV.nil
  · intro w' hw
    exact Post.mk (is := [2]) hw (by decide) rfl ⟨rfl, rfl⟩
theorem any_mulx (b : Nat) (s : ByteArray) (c : Cur) (h16 : s.size ≤ 1000000) (hs : Suf s c) (n195 : (nx c).1 ≠ 195) (n80 : (nx c).1 / 8 ≠ 10) (n88 : (nx c).1 / 8 ≠ 11) (n65 : (nx c).1 ≠ 65) (n233 : (nx c).1 ≠ 233) (n15 : (nx c).1 ≠ 15) (y196 : (nx c).1 = 196) :
    Ctr Try.prog 82 [.pointer (some ⟨b, 0, none⟩)] [(b, cO s c)] tt (is ((mulD (nx (nx c).2).1 (nx (nx (nx c).2).2).1 (nx (nx (nx (nx (nx c).2).2).2).2).1, (nx (nx (nx (nx (nx c).2).2).2).2).2)).1.V [(b, cO s ((mulD (nx (nx c).2).1 (nx (nx (nx c).2).2).1 (nx (nx (nx (nx (nx c).2).2).2).2).1, (nx (nx (nx (nx (nx c).2).2).2).2).2)).2)]) := by
  have hb := hs.byte
  have a248 : ar .and .i64 (nx c).1 248 = (nx c).1 / 8 * 8 := dand248 hb
  have a7 : ar .and .i64 (nx c).1 7 = (nx c).1 % 8 := dand7 hb
  have c195 : cm .eql (nx c).1 195 = false := cm_no (by omega)
  have c80 : cm .eql ((nx c).1 / 8 * 8) 80 = false := cm_no (by omega)
  have c88 : cm .eql ((nx c).1 / 8 * 8) 88 = false := cm_no (by omega)
  have c65 : cm .eql (nx c).1 65 = false := cm_no (by omega)
  have c233 : cm .eql (nx c).1 233 = false := cm_no (by omega)
  have c15 : cm .eql (nx c).1 15 = false := cm_no (by omega)
  have c196 : cm .eql (nx c).1 196 = true := cm_yes (by omega)
  have hx : Byte (nx (nx c).2).1 := hs.n1.byte
  have hy : Byte (nx (nx (nx c).2).2).1 := hs.n1.n1.byte
  have hm : Byte (nx (nx (nx (nx (nx c).2).2).2).2).1 := hs.n1.n1.n1.n1.byte
  have f1 : ar .shr .i64 (nx (nx c).2).1 7 = (nx (nx c).2).1 / 128 := Int.fdiv_eq_ediv_of_nonneg _ (by decide)
  have f2 : ar .xor .i64 ((nx (nx c).2).1 / 128) 1 = 1 - (nx (nx c).2).1 / 128 := by
    rw [fin_ar .xor 1 xor1 xor1_all (by unfold Byte at hx; omega)]; unfold Byte at hx; unfold xor1; split <;> omega
  have f3 : ar .shl .i64 (1 - (nx (nx c).2).1 / 128) 2 = (1 - (nx (nx c).2).1 / 128) * 4 := by
    have : 1 - (nx (nx c).2).1 / 128 = 0 ∨ 1 - (nx (nx c).2).1 / 128 = 1 := by unfold Byte at hx; omega
    rcases this with h | h <;> rw [h] <;> decide +kernel
  have f4 : ar .shr .i64 (nx (nx c).2).1 5 = (nx (nx c).2).1 / 32 := Int.fdiv_eq_ediv_of_nonneg _ (by decide)
  have f5 : ar .and .i64 ((nx (nx c).2).1 / 32) 1 = (nx (nx c).2).1 / 32 % 2 := dand1 (by unfold Byte at *; omega)
  have f6 : ar .or .i64 ((1 - (nx (nx c).2).1 / 128) * 4) ((nx (nx c).2).1 / 32 % 2) = (1 - (nx (nx c).2).1 / 128) * 4 + (nx (nx c).2).1 / 32 % 2 := by
    have h1 : 1 - (nx (nx c).2).1 / 128 = 0 ∨ 1 - (nx (nx c).2).1 / 128 = 1 := by unfold Byte at hx; omega
    have h2 : (nx (nx c).2).1 / 32 % 2 = 0 ∨ (nx (nx c).2).1 / 32 % 2 = 1 := by omega
    rcases h1 with h1 | h1 <;> rcases h2 with h2 | h2 <;> rw [h1, h2] <;> decide +kernel
  have f7 : ar .xor .i64 ((1 - (nx (nx c).2).1 / 128) * 4 + (nx (nx c).2).1 / 32 % 2) 1 = ((1 - (nx (nx c).2).1 / 128) * 4 + (1 - (nx (nx c).2).1 / 32 % 2)) := by
    rw [fin_ar .xor 1 xor1 xor1_all (by unfold Byte at hx; omega)]; unfold Byte at hx; unfold xor1; split <;> omega
  have f8 : ar .shr .i64 (nx (nx (nx c).2).2).1 3 = (nx (nx (nx c).2).2).1 / 8 := Int.fdiv_eq_ediv_of_nonneg _ (by decide)
  have f9 : ar .and .i64 ((nx (nx (nx c).2).2).1 / 8) 15 = (nx (nx (nx c).2).2).1 / 8 % 16 := dand15 (by unfold Byte at *; omega)
  have f10 : ar .sub .i64 15 ((nx (nx (nx c).2).2).1 / 8 % 16) = 15 - (nx (nx (nx c).2).2).1 / 8 % 16 := by
    have : 0 ≤ (nx (nx (nx c).2).2).1 / 8 % 16 ∧ (nx (nx (nx c).2).2).1 / 8 % 16 ≤ 15 := by omega
    exact wrap_nat (by omega)
  have hR : Byte ((1 - (nx (nx c).2).1 / 128) * 4 + (1 - (nx (nx c).2).1 / 32 % 2)) := by unfold Byte at *; omega
  clear n195 n80 n88 n65 n233 n15 y196
  refine Ctr.enter Try.func82 Try.ntmps82 rfl rfl (fun w _ => ?_)
  repeat (first | refine Af ?_ | refine Ac ?_ | refine Aa ?_ | refine Ae ?_ | refine Ad ?_ | refine Ag ?_ | refine Ah ?_ | refine Ao ?_ | refine Ab 0 ?_ | refine As ?_ | refine Aq (fun _ => ?_) | refine Am ?_ | refine Aj ?_ | refine Ai ?_ | refine An ?_ | refine Av ?_ | refine Bb ?_ | refine L.call1 1 (byte_S b s c h16 hs) (by exact rfl) (by exact rfl) (by exact rfl) (fun _ _ => trivial) (by simp only [hset]; rfl) ?_ | refine L.call1 1 (byte_S b s (nx c).2 h16 hs.n1) (by exact rfl) (by exact rfl) (by exact rfl) (fun _ _ => trivial) (by simp only [hset]; rfl) ?_ | refine L.call1 1 (byte_S b s (nx (nx c).2).2 h16 hs.n1.n1) (by exact rfl) (by exact rfl) (by exact rfl) (fun _ _ => trivial) (by simp only [hset]; rfl) ?_ | refine L.call1 1 (skip1_S b s (nx (nx (nx c).2).2).2 h16 hs.n1.n1.n1) (by exact rfl) (by exact rfl) (by exact rfl) (fun _ _ => trivial) (by simp only [hset]; rfl) ?_ | refine L.call1 1 (byte_S b s (nx (nx (nx (nx c).2).2).2).2 h16 hs.n1.n1.n1.n1) (by exact rfl) (by exact rfl) (by exact rfl) (fun _ _ => trivial) (by simp only [hset]; rfl) ?_ | refine L.callQ (mid_S ((1 - (nx (nx c).2).1 / 128) * 4 + (1 - (nx (nx c).2).1 / 32 % 2)) (nx (nx (nx (nx (nx c).2).2).2).2).1 hR hm) (by exact rfl) (by exact rfl) (fun _ _ => trivial) ?_ | refine L.callQ (last_S ((1 - (nx (nx c).2).1 / 128) * 4 + (1 - (nx (nx c).2).1 / 32 % 2)) (nx (nx (nx (nx (nx c).2).2).2).2).1 hR hm) (by exact rfl) (by exact rfl) (fun _ _ => trivial) ?_)
  refine D.ret (vs := [((mulD (nx (nx c).2).1 (nx (nx (nx c).2).2).1 (nx (nx (nx (nx (nx c).2).2).2).2).1, (nx (nx (nx (nx (nx c).2).2).2).2).2)).1.V]) ?_ ?_
  · exact RV.cellA 0 rfl rfl rfl rfl rfl RV.nil
  · intro w' hw
    exact Post.mk (is := [1]) hw (by decide) rfl ⟨rfl, rfl⟩
theorem any_adcx (b : Nat) (s : ByteArray) (c : Cur) (h16 : s.size ≤ 1000000) (hs : Suf s c) (n195 : (nx c).1 ≠ 195) (n80 : (nx c).1 / 8 ≠ 10) (n88 : (nx c).1 / 8 ≠ 11) (n65 : (nx c).1 ≠ 65) (n233 : (nx c).1 ≠ 233) (n15 : (nx c).1 ≠ 15) (n196 : (nx c).1 ≠ 196) (y102 : (nx c).1 = 102) :
    Ctr Try.prog 82 [.pointer (some ⟨b, 0, none⟩)] [(b, cO s c)] tt (is (chainD 20 (nx c).2).1.V [(b, cO s (chainD 20 (nx c).2).2)]) := by
  have hb := hs.byte
  have a248 : ar .and .i64 (nx c).1 248 = (nx c).1 / 8 * 8 := dand248 hb
  have a7 : ar .and .i64 (nx c).1 7 = (nx c).1 % 8 := dand7 hb
  have c195 : cm .eql (nx c).1 195 = false := cm_no (by omega)
  have c80 : cm .eql ((nx c).1 / 8 * 8) 80 = false := cm_no (by omega)
  have c88 : cm .eql ((nx c).1 / 8 * 8) 88 = false := cm_no (by omega)
  have c65 : cm .eql (nx c).1 65 = false := cm_no (by omega)
  have c233 : cm .eql (nx c).1 233 = false := cm_no (by omega)
  have c15 : cm .eql (nx c).1 15 = false := cm_no (by omega)
  have c196 : cm .eql (nx c).1 196 = false := cm_no (by omega)
  have c102 : cm .eql (nx c).1 102 = true := cm_yes (by omega)
  have hr : Byte (nx (nx c).2).1 := hs.n1.byte
  have hm : Byte (nx (nx (nx (nx (nx (nx c).2).2).2).2).2).1 := hs.n1.n1.n1.n1.n1.byte
  have hlk : ((lookI [⟨.int .i64 102, .int .i64 20, 0⟩, ⟨.int .i64 243, .int .i64 21, 1⟩] (nx c).1).getD (.int .i64 0)) = .int .i64 20 := by rw [y102]; rfl
  clear n195 n80 n88 n65 n233 n15 n196 y102
  refine Ctr.enter Try.func82 Try.ntmps82 rfl rfl (fun w _ => ?_)
  repeat (first | refine Af ?_ | refine Ac ?_ | refine Aa ?_ | refine Ae ?_ | refine Ad ?_ | refine Ag ?_ | refine Ah ?_ | refine Ao ?_ | refine Ab 1 ?_ | refine As ?_ | refine Aq (fun _ => ?_) | refine Am ?_ | refine Aj ?_ | refine Be ?_ | refine Bf ?_ | refine Ai ?_ | refine An ?_ | refine Av ?_ | refine Bb ?_ | refine L.makeMap (c := fun _ => ?_) | refine L.call1 1 (byte_S b s c h16 hs) (by exact rfl) (by exact rfl) (by exact rfl) (fun _ _ => trivial) (by simp only [hset]; rfl) ?_ | refine L.call1 1 (byte_S b s (nx c).2 h16 hs.n1) (by exact rfl) (by exact rfl) (by exact rfl) (fun _ _ => trivial) (by simp only [hset]; rfl) ?_ | refine L.call1 1 (skip3_S b s (nx (nx c).2).2 h16 hs.n1.n1) (by exact rfl) (by exact rfl) (by exact rfl) (fun _ _ => trivial) (by simp only [hset]; rfl) ?_ | refine L.call1 1 (byte_S b s (nx (nx (nx (nx (nx c).2).2).2).2).2 h16 hs.n1.n1.n1.n1.n1) (by exact rfl) (by exact rfl) (by exact rfl) (fun _ _ => trivial) (by simp only [hset]; rfl) ?_ | refine L.insertI 0 (by exact rfl) (by exact rfl) (by exact rfl) (by exact rfl) (by exact rfl) (by exact rfl) (by simp only [hset, List.nil_append, List.cons_append]; rfl) ?_ | refine L.lookupI 0 (by exact rfl) (by exact rfl) (by exact rfl) (by exact rfl) (by exact rfl) hlk ?_ | refine L.callQ (mid_S (nx (nx c).2).1 (nx (nx (nx (nx (nx (nx c).2).2).2).2).2).1 hr hm) (by exact rfl) (by exact rfl) (fun _ _ => trivial) ?_ | refine L.callQ (last_S (nx (nx c).2).1 (nx (nx (nx (nx (nx (nx c).2).2).2).2).2).1 hr hm) (by exact rfl) (by exact rfl) (fun _ _ => trivial) ?_)
  refine D.ret (vs := [(chainD 20 (nx c).2).1.V]) ?_ ?_
  · exact RV.cellA 1 rfl rfl rfl rfl rfl RV.nil
  · intro w' hw
    exact Post.mk (is := [2]) hw (by decide) rfl ⟨rfl, rfl⟩
theorem any_adox (b : Nat) (s : ByteArray) (c : Cur) (h16 : s.size ≤ 1000000) (hs : Suf s c) (n195 : (nx c).1 ≠ 195) (n80 : (nx c).1 / 8 ≠ 10) (n88 : (nx c).1 / 8 ≠ 11) (n65 : (nx c).1 ≠ 65) (n233 : (nx c).1 ≠ 233) (n15 : (nx c).1 ≠ 15) (n196 : (nx c).1 ≠ 196) (n102 : (nx c).1 ≠ 102) (y243 : (nx c).1 = 243) :
    Ctr Try.prog 82 [.pointer (some ⟨b, 0, none⟩)] [(b, cO s c)] tt (is (chainD 21 (nx c).2).1.V [(b, cO s (chainD 21 (nx c).2).2)]) := by
  have hb := hs.byte
  have a248 : ar .and .i64 (nx c).1 248 = (nx c).1 / 8 * 8 := dand248 hb
  have a7 : ar .and .i64 (nx c).1 7 = (nx c).1 % 8 := dand7 hb
  have c195 : cm .eql (nx c).1 195 = false := cm_no (by omega)
  have c80 : cm .eql ((nx c).1 / 8 * 8) 80 = false := cm_no (by omega)
  have c88 : cm .eql ((nx c).1 / 8 * 8) 88 = false := cm_no (by omega)
  have c65 : cm .eql (nx c).1 65 = false := cm_no (by omega)
  have c233 : cm .eql (nx c).1 233 = false := cm_no (by omega)
  have c15 : cm .eql (nx c).1 15 = false := cm_no (by omega)
  have c196 : cm .eql (nx c).1 196 = false := cm_no (by omega)
  have c102 : cm .eql (nx c).1 102 = false := cm_no (by omega)
  have c243 : cm .eql (nx c).1 243 = true := cm_yes (by omega)
  have hr : Byte (nx (nx c).2).1 := hs.n1.byte
  have hm : Byte (nx (nx (nx (nx (nx (nx c).2).2).2).2).2).1 := hs.n1.n1.n1.n1.n1.byte
  have hlk : ((lookI [⟨.int .i64 102, .int .i64 20, 0⟩, ⟨.int .i64 243, .int .i64 21, 1⟩] (nx c).1).getD (.int .i64 0)) = .int .i64 21 := by rw [y243]; rfl
  clear n195 n80 n88 n65 n233 n15 n196 n102 y243
  refine Ctr.enter Try.func82 Try.ntmps82 rfl rfl (fun w _ => ?_)
  repeat (first | refine Af ?_ | refine Ac ?_ | refine Aa ?_ | refine Ae ?_ | refine Ad ?_ | refine Ag ?_ | refine Ah ?_ | refine Ao ?_ | refine Ab 1 ?_ | refine As ?_ | refine Aq (fun _ => ?_) | refine Am ?_ | refine Aj ?_ | refine Ax ?_ | refine Aw ?_ | refine Ai ?_ | refine An ?_ | refine Av ?_ | refine Bb ?_ | refine L.makeMap (c := fun _ => ?_) | refine L.call1 1 (byte_S b s c h16 hs) (by exact rfl) (by exact rfl) (by exact rfl) (fun _ _ => trivial) (by simp only [hset]; rfl) ?_ | refine L.call1 1 (byte_S b s (nx c).2 h16 hs.n1) (by exact rfl) (by exact rfl) (by exact rfl) (fun _ _ => trivial) (by simp only [hset]; rfl) ?_ | refine L.call1 1 (skip3_S b s (nx (nx c).2).2 h16 hs.n1.n1) (by exact rfl) (by exact rfl) (by exact rfl) (fun _ _ => trivial) (by simp only [hset]; rfl) ?_ | refine L.call1 1 (byte_S b s (nx (nx (nx (nx (nx c).2).2).2).2).2 h16 hs.n1.n1.n1.n1.n1) (by exact rfl) (by exact rfl) (by exact rfl) (fun _ _ => trivial) (by simp only [hset]; rfl) ?_ | refine L.insertI 0 (by exact rfl) (by exact rfl) (by exact rfl) (by exact rfl) (by exact rfl) (by exact rfl) (by simp only [hset, List.nil_append, List.cons_append]; rfl) ?_ | refine L.lookupI 0 (by exact rfl) (by exact rfl) (by exact rfl) (by exact rfl) (by exact rfl) hlk ?_ | refine L.callQ (mid_S (nx (nx c).2).1 (nx (nx (nx (nx (nx (nx c).2).2).2).2).2).1 hr hm) (by exact rfl) (by exact rfl) (fun _ _ => trivial) ?_ | refine L.callQ (last_S (nx (nx c).2).1 (nx (nx (nx (nx (nx (nx c).2).2).2).2).2).1 hr hm) (by exact rfl) (by exact rfl) (fun _ _ => trivial) ?_)
  refine D.ret (vs := [(chainD 21 (nx c).2).1.V]) ?_ ?_
  · exact RV.cellA 1 rfl rfl rfl rfl rfl RV.nil
  · intro w' hw
    exact Post.mk (is := [2]) hw (by decide) rfl ⟨rfl, rfl⟩
theorem any_wide (b : Nat) (s : ByteArray) (c : Cur) (h16 : s.size ≤ 1000000) (hs : Suf s c) (n195 : (nx c).1 ≠ 195) (n80 : (nx c).1 / 8 ≠ 10) (n88 : (nx c).1 / 8 ≠ 11) (n65 : (nx c).1 ≠ 65) (n233 : (nx c).1 ≠ 233) (n15 : (nx c).1 ≠ 15) (n196 : (nx c).1 ≠ 196) (n102 : (nx c).1 ≠ 102) (n243 : (nx c).1 ≠ 243) :
    Ctr Try.prog 82 [.pointer (some ⟨b, 0, none⟩)] [(b, cO s c)] tt (is (wideD (nx c).1 (nx c).2).1.V [(b, cO s (wideD (nx c).1 (nx c).2).2)]) := by
  have hb := hs.byte
  have a248 : ar .and .i64 (nx c).1 248 = (nx c).1 / 8 * 8 := dand248 hb
  have a7 : ar .and .i64 (nx c).1 7 = (nx c).1 % 8 := dand7 hb
  have c195 : cm .eql (nx c).1 195 = false := cm_no (by omega)
  have c80 : cm .eql ((nx c).1 / 8 * 8) 80 = false := cm_no (by omega)
  have c88 : cm .eql ((nx c).1 / 8 * 8) 88 = false := cm_no (by omega)
  have c65 : cm .eql (nx c).1 65 = false := cm_no (by omega)
  have c233 : cm .eql (nx c).1 233 = false := cm_no (by omega)
  have c15 : cm .eql (nx c).1 15 = false := cm_no (by omega)
  have c196 : cm .eql (nx c).1 196 = false := cm_no (by omega)
  have c102 : cm .eql (nx c).1 102 = false := cm_no (by omega)
  have c243 : cm .eql (nx c).1 243 = false := cm_no (by omega)
  clear n195 n80 n88 n65 n233 n15 n196 n102 n243
  refine Ctr.enter Try.func82 Try.ntmps82 rfl rfl (fun w _ => ?_)
  repeat (first | refine Af ?_ | refine Ac ?_ | refine Aa ?_ | refine Ae ?_ | refine Ad ?_ | refine Ag ?_ | refine Ah ?_ | refine Ao ?_ | refine Ab 0 ?_ | refine Aq (fun _ => ?_) | refine Aj ?_ | refine Ax ?_ | refine Aw ?_ | refine Ai ?_ | refine Ar ?_ | refine An ?_ | refine Ap ?_ | refine L.call1 1 (byte_S b s c h16 hs) (by exact rfl) (by exact rfl) (by exact rfl) (fun _ _ => trivial) (by simp only [hset]; rfl) ?_ | refine L.call1 1 (wide_S b s (nx c).2 (nx c).1 h16 hs.n1 hb) (by exact rfl) (by exact rfl) (by exact rfl) (fun _ _ => trivial) (by simp only [hset]; rfl) ?_)
  refine D.ret (vs := [(wideD (nx c).1 (nx c).2).1.V]) ?_ ?_
  · exact RV.cellA 0 rfl rfl rfl rfl rfl RV.nil
  · intro w' hw
    exact Post.mk (is := [1]) hw (by decide) rfl ⟨rfl, rfl⟩
theorem any_escS (b : Nat) (s : ByteArray) (c : Cur) (h16 : s.size ≤ 1000000) (hs : Suf s c) (n195 : (nx c).1 ≠ 195) (n80 : (nx c).1 / 8 ≠ 10) (n88 : (nx c).1 / 8 ≠ 11) (y65 : (nx c).1 = 65) (X : Ins × Cur) (hX : Ctr Try.prog 82 [.pointer (some ⟨b, 0, none⟩)] [(b, cO s (nx c).2)] tt (is X.1.V [(b, cO s X.2)])) (hB : (0 ≤ X.1.s ∧ X.1.s ≤ 15) ∧ (0 ≤ X.1.d ∧ X.1.d ≤ 15)) (hop : X.1.op = 28) :
    Ctr Try.prog 82 [.pointer (some ⟨b, 0, none⟩)] [(b, cO s c)] tt (is ((up8 X.1, X.2)).1.V [(b, cO s ((up8 X.1, X.2)).2)]) := by
  have hb := hs.byte
  have a248 : ar .and .i64 (nx c).1 248 = (nx c).1 / 8 * 8 := dand248 hb
  have a7 : ar .and .i64 (nx c).1 7 = (nx c).1 % 8 := dand7 hb
  have c195 : cm .eql (nx c).1 195 = false := cm_no (by omega)
  have c80 : cm .eql ((nx c).1 / 8 * 8) 80 = false := cm_no (by omega)
  have c88 : cm .eql ((nx c).1 / 8 * 8) 88 = false := cm_no (by omega)
  have c65 : cm .eql (nx c).1 65 = true := cm_yes (by omega)
  have cop : cm .eql X.1.op 28 = true := cm_yes hop
  have hor : ar .or .i64 X.1.s 8 = or8 X.1.s := fin_ar .or 8 or8 or8_all (by omega)
  have hup : up8 X.1 = { X.1 with s := or8 X.1.s } := by unfold up8; rw [if_pos hop]
  rw [hup]
  clear hop hup hB
  clear n195 n80 n88 y65
  refine Ctr.enter Try.func82 Try.ntmps82 rfl rfl (fun w _ => ?_)
  repeat (first | refine Af ?_ | refine Ac ?_ | refine Aa ?_ | refine Ae ?_ | refine Ad ?_ | refine Ag ?_ | refine Ah ?_ | refine Ao ?_ | refine Ay ?_ | refine Ak 0 ?_ | refine Al 0 ?_ | refine Ab 0 ?_ | refine Ab 1 ?_ | refine Aq (fun _ => ?_) | refine Am ?_ | refine Aj ?_ | refine Ai ?_ | refine An ?_ | refine Av ?_ | refine Bb ?_ | refine L.call1 1 (byte_S b s c h16 hs) (by exact rfl) (by exact rfl) (by exact rfl) (fun _ _ => trivial) (by simp only [hset]; rfl) ?_ | refine L.call1 1 hX (by exact rfl) (by exact rfl) (by exact rfl) (fun _ _ => trivial) (by simp only [hset]; rfl) ?_)
  refine D.ret (vs := [(({ X.1 with s := or8 X.1.s }, X.2)).1.V]) ?_ ?_
  · exact RV.cellA 1 rfl rfl rfl rfl rfl RV.nil
  · intro w' hw
    exact Post.mk (is := [2]) hw (by decide) rfl ⟨rfl, rfl⟩
theorem any_escD (b : Nat) (s : ByteArray) (c : Cur) (h16 : s.size ≤ 1000000) (hs : Suf s c) (n195 : (nx c).1 ≠ 195) (n80 : (nx c).1 / 8 ≠ 10) (n88 : (nx c).1 / 8 ≠ 11) (y65 : (nx c).1 = 65) (X : Ins × Cur) (hX : Ctr Try.prog 82 [.pointer (some ⟨b, 0, none⟩)] [(b, cO s (nx c).2)] tt (is X.1.V [(b, cO s X.2)])) (hB : (0 ≤ X.1.s ∧ X.1.s ≤ 15) ∧ (0 ≤ X.1.d ∧ X.1.d ≤ 15)) (hop : X.1.op ≠ 28) :
    Ctr Try.prog 82 [.pointer (some ⟨b, 0, none⟩)] [(b, cO s c)] tt (is ((up8 X.1, X.2)).1.V [(b, cO s ((up8 X.1, X.2)).2)]) := by
  have hb := hs.byte
  have a248 : ar .and .i64 (nx c).1 248 = (nx c).1 / 8 * 8 := dand248 hb
  have a7 : ar .and .i64 (nx c).1 7 = (nx c).1 % 8 := dand7 hb
  have c195 : cm .eql (nx c).1 195 = false := cm_no (by omega)
  have c80 : cm .eql ((nx c).1 / 8 * 8) 80 = false := cm_no (by omega)
  have c88 : cm .eql ((nx c).1 / 8 * 8) 88 = false := cm_no (by omega)
  have c65 : cm .eql (nx c).1 65 = true := cm_yes (by omega)
  have cop : cm .eql X.1.op 28 = false := cm_no hop
  have hor : ar .or .i64 X.1.d 8 = or8 X.1.d := fin_ar .or 8 or8 or8_all (by omega)
  have hup : up8 X.1 = { X.1 with d := or8 X.1.d } := by unfold up8; rw [if_neg hop]
  rw [hup]
  clear hop hup hB
  clear n195 n80 n88 y65
  refine Ctr.enter Try.func82 Try.ntmps82 rfl rfl (fun w _ => ?_)
  repeat (first | refine Af ?_ | refine Ac ?_ | refine Aa ?_ | refine Ae ?_ | refine Ad ?_ | refine Ag ?_ | refine Ah ?_ | refine Ao ?_ | refine Ay ?_ | refine Ak 0 ?_ | refine Al 0 ?_ | refine Ab 0 ?_ | refine Ab 1 ?_ | refine Aq (fun _ => ?_) | refine Am ?_ | refine Aj ?_ | refine Ai ?_ | refine An ?_ | refine Av ?_ | refine Bb ?_ | refine L.call1 1 (byte_S b s c h16 hs) (by exact rfl) (by exact rfl) (by exact rfl) (fun _ _ => trivial) (by simp only [hset]; rfl) ?_ | refine L.call1 1 hX (by exact rfl) (by exact rfl) (by exact rfl) (fun _ _ => trivial) (by simp only [hset]; rfl) ?_)
  refine D.ret (vs := [(({ X.1 with d := or8 X.1.d }, X.2)).1.V]) ?_ ?_
  · exact RV.cellA 1 rfl rfl rfl rfl rfl RV.nil
  · intro w' hw
    exact Post.mk (is := [2]) hw (by decide) rfl ⟨rfl, rfl⟩
theorem any_S (b : Nat) (s : ByteArray) (h16 : s.size ≤ 1000000) : ∀ (l : List Int) (k : Bool), Suf s (l, k) →
    Ctr Try.prog 82 [.pointer (some ⟨b, 0, none⟩)] [(b, cO s (l, k))] tt (is (anyD l k).1.V [(b, cO s (anyD l k).2)]) := by
  intro l
  induction l with
  | nil =>
    intro k hs
    have := any_wide b s ([], k) h16 hs (show (0 : Int) ≠ 195 by decide) (show (0 : Int) / 8 ≠ 10 by decide) (show (0 : Int) / 8 ≠ 11 by decide) (show (0 : Int) ≠ 65 by decide) (show (0 : Int) ≠ 233 by decide) (show (0 : Int) ≠ 15 by decide) (show (0 : Int) ≠ 196 by decide) (show (0 : Int) ≠ 102 by decide) (show (0 : Int) ≠ 243 by decide)
    exact this
  | cons x r ih =>
    intro k hs
    rw [anyD]
    split
    · exact any_ret b s (x :: r, k) h16 hs (by assumption)
    · split
      · exact any_push b s (x :: r, k) h16 hs (by assumption) (by assumption)
      · split
        · exact any_pop b s (x :: r, k) h16 hs (by assumption) (by assumption) (by assumption)
        · split
          · by_cases hop : (anyD r k).1.op = 28
            · exact any_escS b s (x :: r, k) h16 hs (by assumption) (by assumption) (by assumption) (by assumption) (anyD r k) (ih k hs.n1) (any_b r k) hop
            · exact any_escD b s (x :: r, k) h16 hs (by assumption) (by assumption) (by assumption) (by assumption) (anyD r k) (ih k hs.n1) (any_b r k) hop
          · split
            · exact any_jmp b s (x :: r, k) h16 hs (by assumption) (by assumption) (by assumption) (by assumption) (by assumption)
            · split
              · exact any_jcc b s (x :: r, k) h16 hs (by assumption) (by assumption) (by assumption) (by assumption) (by assumption) (by assumption)
              · split
                · exact any_mulx b s (x :: r, k) h16 hs (by assumption) (by assumption) (by assumption) (by assumption) (by assumption) (by assumption) (by assumption)
                · split
                  · exact any_adcx b s (x :: r, k) h16 hs (by assumption) (by assumption) (by assumption) (by assumption) (by assumption) (by assumption) (by assumption) (by assumption)
                  · split
                    · exact any_adox b s (x :: r, k) h16 hs (by assumption) (by assumption) (by assumption) (by assumption) (by assumption) (by assumption) (by assumption) (by assumption) (by assumption)
                    · exact any_wide b s (x :: r, k) h16 hs (by assumption) (by assumption) (by assumption) (by assumption) (by assumption) (by assumption) (by assumption) (by assumption) (by assumption)
end Go.Proofs.Ytbcaelhchmoigaa
