import Derived.Test.YtbcaelhchmoigaaMF
import Derived.Laws.BitsAllLaws
import Derived.Test.YtbcaelhchmoigaaTy
import Derived.Test.YtbcaelhchmoigaaSepW
set_option linter.unusedVariables false
set_option linter.unusedSimpArgs false
namespace Go.Proofs.Ytbcaelhchmoigaa
open Go.RowKit Calm SL
def Suf (s : ByteArray) (c : Cur) : Prop := ∃ n, n ≤ s.size ∧ c.1 = (bytesOf s).drop n
def cO (s : ByteArray) (c : Cur) : Obj := ob [.string s, .int .i64 ((s.size - c.1.length : Nat) : Int), .bool c.2] 112
theorem cO_eq {s : ByteArray} {n : Nat} {k : Bool} (h : n ≤ s.size) : cO s ((bytesOf s).drop n, k) = .cells #[.string s, .int .i64 n, .bool k] 112 := by
  unfold cO
  have : s.size - ((bytesOf s).drop n).length = n := by rw [List.length_drop, bytesOf_length]; omega
  simp only [this]
theorem curA_of {w : World} {b : Nat} {s : ByteArray} {c : Cur} (hs : Suf s c) (h : w.heap[b]? = some (cO s c)) : CurA w b s c := by
  obtain ⟨l, k⟩ := c
  obtain ⟨n, hn, rfl⟩ := hs
  exact ⟨n, ⟨hn, by rw [h, cO_eq hn]⟩, rfl⟩
theorem curA_heap {w : World} {b : Nat} {s : ByteArray} {c : Cur} (h : CurA w b s c) : w.heap[b]? = some (cO s c) := by
  obtain ⟨l, k⟩ := c
  obtain ⟨n, ⟨hn, hh⟩, rfl⟩ := h
  rw [hh, cO_eq hn]
theorem keeps_of {b : Nat} {w w' : World} (h : KeepBut b w w') : Keeps [b] w w' := ⟨h.os, h.tape, h.output, h.size, fun k hk hb => h.block k hk (by simpa using hb)⟩
theorem spec_cur {f : Nat} {args : List Value} {b : Nat} {s : ByteArray} {c c' : Cur} {v : Value} (hs : Suf s c) (h : ∀ w, CurA w b s c → Calls Try.prog f args.toArray w fun e w' => e = .returned v ∧ CurA w' b s c' ∧ KeepBut b w w') :
    Ctr Try.prog f args [(b, cO s c)] tt (is v [(b, cO s c')]) := by
  intro w _ h2 _
  refine (h w (curA_of hs (h2 (b, cO s c) List.mem_cons_self))).mono ?_
  rintro e w' ⟨rfl, hc, hk⟩
  refine ⟨v, _, rfl, ⟨rfl, rfl⟩, keeps_of hk, by simp [keys], fun x hx => ?_, fun x hx => ?_⟩
  · obtain rfl : x = (b, cO s c') := by simpa using hx
    exact .inl (by simp [keys])
  · obtain rfl : x = (b, cO s c') := by simpa using hx
    exact curA_heap hc
theorem Suf.n1 {s : ByteArray} {c : Cur} (h : Suf s c) : Suf s (nx c).2 := by
  obtain ⟨l, k⟩ := c
  obtain ⟨n, hn, rfl⟩ := h
  rcases Nat.lt_or_ge n s.size with hlt | hge
  · rw [drop_nx s n k hlt]; exact ⟨n + 1, hlt, rfl⟩
  · rw [drop_end s n k (by omega)]; exact ⟨n, hn, rfl⟩
theorem Suf.val {s : ByteArray} : ∀ (k : Nat) {c : Cur}, Suf s c → Suf s (valD k c).2
  | 0, _, h => h
  | k + 1, _, h => Suf.val k h.n1
theorem Suf.num {s : ByteArray} {c : Cur} (h : Suf s c) (k : Nat) : Suf s (numD k c).2 := h.val k
theorem Suf.byte {s : ByteArray} {c : Cur} (h : Suf s c) : Byte (nx c).1 := by
  obtain ⟨l, k⟩ := c
  obtain ⟨n, hn, rfl⟩ := h
  have hr : RestB ((bytesOf s).drop n, k) := by
    intro x hx
    have hx : x ∈ bytesOf s := List.mem_of_mem_drop hx
    unfold bytesOf at hx
    obtain ⟨y, _, rfl⟩ := List.mem_map.1 hx
    have := y.toNat_lt
    show 0 ≤ (y.toNat : Int) ∧ (y.toNat : Int) ≤ 255
    omega
  exact (RestB.nx hr).1
theorem byte_S (b : Nat) (s : ByteArray) (c : Cur) (h16 : s.size ≤ 1000000) (hs : Suf s c) : Ctr Try.prog 92 [.pointer (some ⟨b, 0, none⟩)] [(b, cO s c)] tt (is (.int .i64 (nx c).1) [(b, cO s (nx c).2)]) :=
  spec_cur hs (fun w h => dbyte_any b s c w h16 h)
theorem cm_no {a b : Int} (h : a ≠ b) : cm .eql a b = false := by show (a == b) = false; rwa [beq_eq_false_iff_ne]
theorem cm_yes {a b : Int} (h : a = b) : cm .eql a b = true := by show (a == b) = true; rwa [beq_iff_eq]
theorem spec_pure {f : Nat} {args : List Value} {v : Value} (h : ∀ w, Calls Try.prog f args.toArray w fun e w' => e = .returned v ∧ w' = w) : Ctr Try.prog f args [] tt (is v []) := by
  intro w _ _ _
  refine (h w).mono ?_
  rintro e w' ⟨rfl, rfl⟩
  exact ⟨v, [], rfl, ⟨rfl, rfl⟩, Keeps.refl _ _, by simp [keys], by simp, by simp⟩
theorem spec_below {f : Nat} {args : List Value} {v : Value} (h : ∀ w, Calls Try.prog f args.toArray w fun e w' => e = .returned v ∧ Below w.heap.size w w') : Ctr Try.prog f args [] tt (is v []) := by
  intro w _ _ _
  refine (h w).mono ?_
  rintro e w' ⟨rfl, hb⟩
  exact ⟨v, [], rfl, ⟨rfl, rfl⟩, Keeps.of_below hb _, by simp [keys], by simp, by simp⟩
theorem last_S (r rm : Int) (hr : Byte r) (hm : Byte rm) : Ctr Try.prog 96 [.int .i64 r, .int .i64 rm] [] tt (is (.int .i64 (lastD r rm)) []) := spec_pure (fun w => dlast_any r rm w hr hm)
theorem mid_S (r rm : Int) (hr : Byte r) (hm : Byte rm) : Ctr Try.prog 95 [.int .i64 r, .int .i64 rm] [] tt (is (.int .i64 (midD r rm)) []) := spec_pure (fun w => dmid_any r rm w hr hm)
theorem number_S (k : Nat) (hk : k = 1 ∨ k = 4 ∨ k = 8) (b : Nat) (s : ByteArray) (c : Cur) (h16 : s.size ≤ 1000000) (hs : Suf s c) : Ctr Try.prog 93 [.pointer (some ⟨b, 0, none⟩), .int .i64 (k : Int)] [(b, cO s c)] tt (is (.int .i64 (numD k c).1) [(b, cO s (numD k c).2)]) := by
  rcases hk with rfl | rfl | rfl
  · exact spec_cur hs (fun w h => dnumber_1 b s c w h16 h)
  · exact spec_cur hs (fun w h => dnumber_4 b s c w h16 h)
  · exact spec_cur hs (fun w h => dnumber_8 b s c w h16 h)
end Go.Proofs.Ytbcaelhchmoigaa
namespace Go.Proofs.Ytbcaelhchmoigaa
open Go.RowKit Calm SL
attribute [local irreducible] SL.L SL.C SL.D SL.N SL.H SL.QL SL.QW
theorem CurA.alloc {w : World} {b : Nat} {s : ByteArray} {c : Cur} (h : CurA w b s c) (hb : b < w.heap.size) (o : Obj) : CurA (w.alloc o) b s c := by
  obtain ⟨n, ⟨h1, h2⟩, h3⟩ := h
  exact ⟨n, ⟨h1, by rw [Below.heap_alloc _ _ _ hb]; exact h2⟩, h3⟩
theorem CurA.dr {w : World} {b : Nat} {s : ByteArray} {c : Cur} (h : CurA w b s c) : CurA w.drew b s c := h
theorem CurA.set {w : World} {b : Nat} {s : ByteArray} {c : Cur} (h : CurA w b s c) (p : Addr) (hp : b ≠ p.block) (u : Value) : CurA (w.setCell p u) b s c := by
  obtain ⟨n, ⟨h1, h2⟩, h3⟩ := h
  exact ⟨n, ⟨h1, by rw [Below.heap_setCell _ _ _ _ hp]; exact h2⟩, h3⟩
theorem CurA.lt {w : World} {b : Nat} {s : ByteArray} {c : Cur} (h : CurA w b s c) : b < w.heap.size := by
  obtain ⟨n, ⟨h1, h2⟩, h3⟩ := h
  rcases Nat.lt_or_ge b w.heap.size with h | h
  · exact h
  · rw [Array.getElem?_eq_none h] at h2; simp at h2
theorem KeepBut.setNew {b : Nat} {x y : World} (h : KeepBut b x y) (p : Addr) (hp : x.heap.size ≤ p.block) (u : Value) : KeepBut b x (y.setCell p u) :=
  ⟨h.os, h.tape, h.output, by simp only [World.setCell, Array.size_modify]; exact h.size, fun k hk hb => (Below.heap_setCell _ _ _ _ (by omega)).trans (h.block k hk hb)⟩
def memC (mb mi ms md : Int) : Array Value := #[.int .i64 mb, .int .i64 mi, .int .i64 ms, .int .i64 md]
theorem heap_two (w : World) (A B : Obj) : ((w.alloc A).alloc B).heap[w.heap.size]? = some A ∧ ((w.alloc A).alloc B).heap[w.heap.size + 1]? = some B := by
  constructor
  · show ((w.heap.push A).push B)[w.heap.size]? = _; rw [Array.getElem?_push, if_neg (by simp), Array.getElem?_push, if_pos rfl]
  · show ((w.heap.push A).push B)[w.heap.size + 1]? = _; rw [Array.getElem?_push, if_pos (by simp)]
theorem mem_lt {W : World} {m : Nat} {o : Obj} (h : W.heap[m]? = some o) : m < W.heap.size := by
  rcases Nat.lt_or_ge m W.heap.size with h1 | h1
  · exact h1
  · rw [Array.getElem?_eq_none h1] at h; simp at h
theorem dlast_w (r rm : Int) (w : World) (hr : Byte r) (hm : Byte rm) : Calls Try.prog 96 #[.int .i64 r, .int .i64 rm] w fun e w' => e = .returned (.int .i64 (lastD r rm)) ∧ w = w' := (dlast_any r rm w hr hm).mono fun _ _ ⟨a, b⟩ => ⟨a, b.symm⟩
theorem dmid_w (r rm : Int) (w : World) (hr : Byte r) (hm : Byte rm) : Calls Try.prog 95 #[.int .i64 r, .int .i64 rm] w fun e w' => e = .returned (.int .i64 (midD r rm)) ∧ w = w' := (dmid_any r rm w hr hm).mono fun _ _ ⟨a, b⟩ => ⟨a, b.symm⟩
theorem mem_other {W : World} {m k : Nat} (hk : k ≠ m) (o : Nat) (x : Value) : (W.setCell ⟨m, o, none⟩ x).heap[k]? = W.heap[k]? := Below.heap_setCell _ _ _ _ hk
attribute [local irreducible] numD midD lastD idxD World.setCell World.drew
theorem x_S (r rm : Int) (hr : Byte r) (hm : Byte rm) : Ctr Try.prog 120 [.int .i64 r, .int .i64 rm] [] tt (is (.int .i64 (idxD r rm)) []) := spec_pure (fun w => didx_any r rm w hr hm)
theorem shr6 {x : Int} (h : Byte x) : ar .shr .i64 x 6 = x / 64 := by
  show x.fdiv (2 ^ (min (6 : Int).toNat IntKind.i64.bits)) = x / 64
  exact Int.fdiv_eq_ediv_of_nonneg _ (by decide)
theorem pow_cases (x : Int) (h : Byte x) : (x / 64 = 0 ∧ powD (x / 64) = 1) ∨ (x / 64 = 1 ∧ powD (x / 64) = 2) ∨ (x / 64 = 2 ∧ powD (x / 64) = 4) ∨ (x / 64 = 3 ∧ powD (x / 64) = 8) := by
  unfold Byte at h
  have : x / 64 = 0 ∨ x / 64 = 1 ∨ x / 64 = 2 ∨ x / 64 = 3 := by omega
  rcases this with e | e | e | e <;> simp [e, powD]
def placeV (r rm : Int) (c : Cur) : Value := .agg (memC (sibD r rm c).1.1 (sibD r rm c).1.2.1 (sibD r rm c).1.2.2 (dispD rm (sibD r rm c).2).1)
theorem disp_cases (rm : Int) : (cm .eql (rm / 64) 1 = true ∧ ∀ c, dispD rm c = numD 1 c) ∨ (cm .eql (rm / 64) 1 = false ∧ cm .eql (rm / 64) 2 = true ∧ ∀ c, dispD rm c = numD 4 c) ∨ (cm .eql (rm / 64) 1 = false ∧ cm .eql (rm / 64) 2 = false ∧ ∀ c, dispD rm c = (0, c)) := by
  by_cases a : rm / 64 = 1
  · exact .inl ⟨cm_yes a, fun c => by unfold dispD; rw [if_pos a]⟩
  · by_cases b : rm / 64 = 2
    · exact .inr (.inl ⟨cm_no a, cm_yes b, fun c => by unfold dispD; rw [if_neg a, if_pos b]⟩)
    · exact .inr (.inr ⟨cm_no a, cm_no b, fun c => by unfold dispD; rw [if_neg a, if_neg b]⟩)
theorem sib_cases (r rm : Int) (c : Cur) : (cm .eql (rm % 8) 4 = false ∧ sibD r rm c = ((lastD r rm, -1, 1), c)) ∨ (cm .eql (rm % 8) 4 = true ∧ cm .neq (idxD r (nx c).1) 4 = false ∧ sibD r rm c = ((lastD r (nx c).1, -1, 1), (nx c).2)) ∨
    (cm .eql (rm % 8) 4 = true ∧ cm .neq (idxD r (nx c).1) 4 = true ∧ sibD r rm c = ((lastD r (nx c).1, idxD r (nx c).1, powD ((nx c).1 / 64)), (nx c).2)) := by
  by_cases a : rm % 8 = 4
  · by_cases x : idxD r (nx c).1 = 4
    · exact .inr (.inl ⟨cm_yes a, by show (idxD r (nx c).1 != 4) = false; simp [x], by unfold sibD; rw [if_pos a, if_pos x, if_pos x]⟩)
    · exact .inr (.inr ⟨cm_yes a, by show (idxD r (nx c).1 != 4) = true; simp [x], by unfold sibD; rw [if_pos a, if_neg x, if_neg x]⟩)
  · exact .inl ⟨cm_no a, by unfold sibD; rw [if_neg a]⟩
set_option maxRecDepth 100000 in
set_option maxHeartbeats 8000000 in
theorem place_S (b : Nat) (s : ByteArray) (c : Cur) (r rm : Int) (h16 : s.size ≤ 1000000) (hs : Suf s c) (hr : Byte r) (hm : Byte rm) :
    Ctr Try.prog 119 [.pointer (some ⟨b, 0, none⟩), .int .i64 r, .int .i64 rm] [(b, cO s c)] tt (is (placeV r rm c) [(b, cO s (dispD rm (sibD r rm c).2).2)]) := by
  have hb := hs.byte
  have a7 : ar .and .i64 rm 7 = rm % 8 := dand7 hm
  have a64 : ar .shr .i64 rm 6 = rm / 64 := shr6 hm
  unfold placeV
  have key : (ar .shr .i64 (nx c).1 6 = 0 ∧ powD ((nx c).1 / 64) = 1) ∨ (ar .shr .i64 (nx c).1 6 = 1 ∧ powD ((nx c).1 / 64) = 2) ∨ (ar .shr .i64 (nx c).1 6 = 2 ∧ powD ((nx c).1 / 64) = 4) ∨ (ar .shr .i64 (nx c).1 6 = 3 ∧ powD ((nx c).1 / 64) = 8) := by
    rw [shr6 hb]; exact pow_cases _ hb
  have s0 : ar .shl .i64 1 0 = 1 := rfl
  have s1 : ar .shl .i64 1 1 = 2 := rfl
  have s2 : ar .shl .i64 1 2 = 4 := rfl
  have s3 : ar .shl .i64 1 3 = 8 := rfl
  rcases sib_cases r rm c with ⟨q1, q2⟩ | ⟨q1, q3, q2⟩ | ⟨q1, q3, q2⟩
  all_goals rw [q2]
  all_goals rcases disp_cases rm with ⟨p1, p2⟩ | ⟨p1, p3, p2⟩ | ⟨p1, p3, p2⟩
  all_goals rw [p2]
  all_goals try simp only
  all_goals try (rcases key with ⟨k1, k2⟩ | ⟨k1, k2⟩ | ⟨k1, k2⟩ | ⟨k1, k2⟩ <;> rw [k2])
  all_goals
    refine Ctr.enter Try.func119 Try.ntmps119 rfl rfl (fun w _ => ?_)
    repeat (first | refine Ab 0 (hl := by simp only [setL, Nat.zero_add, List.set_cons_zero, List.set_cons_succ]; rfl) ?_ | refine QW.store 0 (hl := by simp only [setL, Nat.zero_add, List.set_cons_zero, List.set_cons_succ]; rfl) (k := ?_) | refine Af ?_ | refine Ac ?_ | refine Aa ?_ | refine Ae ?_ | refine Ad ?_ | refine Ag ?_ | refine Ah ?_ | refine Ao ?_ | refine Ay ?_ | refine Ak 0 ?_ | refine Ak 1 ?_ | refine Ak 2 ?_ | refine Ak 3 ?_ | refine Ak 4 ?_ | refine Al 0 ?_ | refine Al 1 ?_ | refine Al 2 ?_ | refine Al 3 ?_ | refine Al 4 ?_ | refine Ab 0 ?_ | refine Ab 1 ?_ | refine Ab 2 ?_ | refine Ab 3 ?_ | refine Ab 4 ?_ | refine Bd ?_ | refine As ?_ | refine Aq (fun _ => ?_) | refine L.box (c := fun _ => ?_) | refine L.nilCheck (k := ?_) | refine Am ?_ | refine Aj ?_ | refine Be ?_ | refine Ax ?_ | refine Aw ?_ | refine Bf ?_ | refine L.not (c := ?_) | refine L.lenS (c := ?_) | refine L.strNe (c := ?_) | refine L.strEq (c := ?_) | refine L.lenV (c := ?_) | refine Ai ?_ | refine Ar ?_ | refine An ?_ | refine Av ?_ | refine Bb ?_ | refine C.exit ?_ | refine Bg ?_ | refine Bh ?_ | refine D.blkOther (h := ?_) | refine Ap ?_ | refine L.convI (c := ?_) | refine L.makeMap (c := fun _ => ?_) | refine D.any ?_ | refine Bc ?_ | refine L.eqA (c := ?_) | refine L.neA (c := ?_) | refine L.funNil (c := ?_) | refine L.eqB (c := ?_) | refine L.neB (c := ?_) | refine L.passU (k := ?_) | refine L.makeFunc (k := ?_) | refine L.buildS (c := fun _ => ?_) | exact D.endsQ | refine QL.fin ?_ | refine C.quiet (h := ?_) | refine C.mixed (h := ?_) | refine QW.fin (h := ?_) | refine QW.load 0 (k := ?_) | refine QW.load 1 (k := ?_) | refine QW.load 2 (k := ?_) | refine QW.load 3 (k := ?_) | refine QW.load 4 (k := ?_) | refine QW.load 5 (k := ?_) | refine QW.loadA 0 (k := ?_) | refine QW.loadA 1 (k := ?_) | refine QW.loadA 2 (k := ?_) | refine QW.loadA 3 (k := ?_) | refine QW.loadA 4 (k := ?_) | refine QW.loadA 5 (k := ?_) | refine QW.store 0 (k := ?_) | refine QW.store 1 (k := ?_) | refine QW.store 2 (k := ?_) | refine QW.store 3 (k := ?_) | refine QW.store 4 (k := ?_) | refine QW.store 5 (k := ?_) | (refine QW.free (v := ?_) (by exact rfl) (by exact rfl) (fun w1 hk1 => ?_) ?_; rotate_left) | refine N.fin (h := ?_) | refine L.assertY (c := ?_) | refine L.assertN (c := ?_) | refine N.one (i := 0) (h := ?_) | refine N.one (i := 1) (h := ?_) | refine N.one (i := 2) (h := ?_) | refine N.one (i := 3) (h := ?_) | refine N.one (i := 4) (h := ?_) | refine N.one (i := 5) (h := ?_) | refine N.one (i := 6) (h := ?_) | refine N.one (i := 7) (h := ?_) | refine N.one (i := 8) (h := ?_) | refine N.one (i := 9) (h := ?_) | refine N.one (i := 10) (h := ?_) | refine N.one (i := 11) (h := ?_) | (refine QL.step (v := ?_) (by exact rfl) (by exact rfl) ?_ ?_; rotate_left) | refine L.call1 2 (byte_S b s c h16 hs) (k := ?_) | refine Au (last_S r rm hr hm) ?_ | refine L.callQ (last_S r (nx c).1 hr hb) (k := ?_) | refine L.callQ (x_S r (nx c).1 hr hb) (k := ?_) | refine L.call1 2 (number_S 1 (.inl rfl) b s c h16 hs) (k := ?_) | refine L.call1 2 (number_S 4 (.inr (.inl rfl)) b s c h16 hs) (k := ?_) | refine L.call1 2 (number_S 1 (.inl rfl) b s (nx c).2 h16 hs.n1) (k := ?_) | refine L.call1 2 (number_S 4 (.inr (.inl rfl)) b s (nx c).2 h16 hs.n1) (k := ?_))
    refine D.ret (vs := [.agg (memC _ _ _ _)]) (RV.cellA 1 rfl rfl rfl rfl rfl RV.nil) (fun w' hw => Post.mk (is := [2]) hw (by decide) rfl ⟨rfl, rfl⟩)
theorem CurA.suf {w : World} {b : Nat} {s : ByteArray} {c : Cur} (h : CurA w b s c) : Suf s c := by
  obtain ⟨l, k⟩ := c
  obtain ⟨n, ⟨hn, _⟩, rfl⟩ := h
  exact ⟨n, hn, rfl⟩
theorem Suf.sib {s : ByteArray} {c : Cur} (h : Suf s c) (r rm : Int) : Suf s (sibD r rm c).2 := by
  unfold sibD; split
  · exact h.n1
  · exact h
theorem Suf.disp {s : ByteArray} {c : Cur} (h : Suf s c) (rm : Int) : Suf s (dispD rm c).2 := by
  unfold dispD; split
  · exact h.num 1
  · split
    · exact h.num 4
    · exact h
theorem dplace_any (b : Nat) (s : ByteArray) (c : Cur) (r rm : Int) (w : World) (h16 : s.size ≤ 1000000) (h : CurA w b s c) (hr : Byte r) (hm : Byte rm) :
    Calls Try.prog 119 #[.pointer (some ⟨b, 0, none⟩), .int .i64 r, .int .i64 rm] w fun e w' =>
      e = .returned (placeV r rm c) ∧ CurA w' b s (dispD rm (sibD r rm c).2).2 ∧ KeepBut b w w' := by
  refine (place_S b s c r rm h16 h.suf hr hm w (by simp [keys]) (fun x hx => by obtain rfl := List.mem_singleton.1 hx; exact curA_heap h) trivial).mono ?_
  rintro e w' ⟨v, B, rfl, ⟨rfl, rfl⟩, hA⟩
  exact ⟨rfl, curA_of ((h.suf.sib r rm).disp rm) (hA.holds _ List.mem_cons_self), hA.keeps.os, hA.keeps.tape, hA.keeps.output, hA.keeps.size, fun k hk hb => hA.keeps.block k hk (by simpa [keys] using hb)⟩
end Go.Proofs.Ytbcaelhchmoigaa
