import Derived.Test.YtbcaelhchmoigaaRcE
import Derived.Test.YtbcaelhchmoigaaDC
set_option maxHeartbeats 8000000
set_option maxRecDepth 100000
set_option linter.unusedVariables false
set_option linter.unusedSimpArgs false
namespace Go.Proofs.Ytbcaelhchmoigaa
open Go.RowKit Calm SL
attribute [local irreducible] SL.L SL.C SL.D SL.N SL.H
theorem anyR_ok (l : List Int) (hl : ∀ x ∈ l, Byte x) (k : Bool) : (anyR l k).1.ok := by
  have hz : ∀ op d s t mb mi ms : Int, (⟨op, d, s, t, mb, mi, ms, 0, 0⟩ : Ins).ok := by intros; unfold Ins.ok; simp
  have hsib : ∀ r rm c, RestB c → RestB (sibD r rm c).2 := by
    intro r rm c h; unfold sibD; split
    · exact (RestB.nx h).2
    · exact h
  have hdisp : ∀ rm c, RestB c → -9223372036854775808 ≤ (dispD rm c).1 ∧ (dispD rm c).1 ≤ 9223372036854775807 := by
    intro rm c h; unfold dispD; split
    · exact num_ok h 1 (by omega)
    · split
      · exact num_ok h 4 (by omega)
      · simp
  have hmov : ∀ op r rm c, RestB c → (movD op r rm c).1.ok := by
    intro op r rm c h; unfold movD Ins.ok; exact ⟨hdisp _ _ (hsib _ _ _ h), by simp⟩
  have hwide : ∀ r c, RestB c → (wideR r c).1.ok := by
    intro r c h
    have h1 := (RestB.nx h).2
    have h2 := (RestB.nx h1).2
    unfold wideR wideRB
    repeat' split
    · unfold pairB; exact hz _ _ _ _ _ _ _
    · exact hmov _ _ _ _ h2
    · exact hmov _ _ _ _ h2
    · unfold storeB; split
      · unfold pairB; exact hz _ _ _ _ _ _ _
      · exact hmov _ _ _ _ h2
    · unfold immB Ins.ok; exact ⟨by simp, num_ok h1 8 (by omega)⟩
    · unfold cmovB; exact hz _ _ _ _ _ _ _
    · unfold grpR
      split
      · exact ⟨by simp, num_ok h2 4 (by omega)⟩
      · split
        · unfold pairB; exact hz _ _ _ _ _ _ _
        · unfold grpC
          split
          · exact hz _ _ _ _ _ _ _
          · rename_i hg
            refine ⟨by simp, num_ok h2 _ ?_⟩
            unfold grpOp at hg ⊢
            repeat' split
            all_goals simp_all
  cases l with
  | nil => exact hwide 0 ([], true) (fun x hx => by cases hx)
  | cons b r =>
    have hr : RestB (r, k) := fun x hx => hl x (List.mem_cons_of_mem _ hx)
    have h1 := (RestB.nx hr).2
    rw [anyR]
    repeat' split
    all_goals first
      | exact hz _ _ _ _ _ _ _
      | exact ⟨by simp, num_ok hr 4 (by omega)⟩
      | exact ⟨by simp, num_ok h1 4 (by omega)⟩
      | (unfold mulD; exact hz _ _ _ _ _ _ _)
      | (unfold chainD; exact hz _ _ _ _ _ _ _)
      | exact hwide _ _ hr
def restS (code : ByteArray) (a : Nat) : ByteArray := code.extract a code.size
theorem restS_bytes (code : ByteArray) (a : Nat) : bytesOf (restS code a) = (bytesOf code).drop a := by
  unfold bytesOf restS
  simp only [ByteArray.data_extract, Array.toList_extract, List.extract_eq_take_drop, List.map_take, List.map_drop]
  exact List.take_of_length_le (by simp)
theorem restS_size (code : ByteArray) (a : Nat) (h : a ≤ code.size) : (restS code a).size = code.size - a := by unfold restS; rw [ByteArray.size_extract]; omega
theorem cR_rest (code : ByteArray) (a : Nat) : ob [.string (code.extract a code.size), .int .i64 0, .bool true] 63 = cR (restS code a) ((bytesOf code).drop a, false) := by
  rw [← restS_bytes]; unfold cR; rw [bytesOf_length]; simp [restS]
theorem bytesOf_mid (s : ByteArray) (a n : Nat) (h : a + n ≤ s.size) : bytesOf (s.extract a (a + n)) = ((bytesOf s).drop a).take n := by
  unfold bytesOf
  simp only [ByteArray.data_extract, Array.toList_extract, List.extract_eq_take_drop, List.map_take, List.map_drop, Nat.add_sub_cancel_left]
theorem anyR_left' (l : List Int) (k : Bool) : (anyR l k).2.1.length ≤ l.length := by
  have hv : ∀ (n : Nat) (c : Cur), (valD n c).2.1.length ≤ c.1.length := by
    intro n
    induction n with
    | zero => intro c; exact Nat.le_refl _
    | succ n ih =>
      rintro ⟨l, k⟩
      cases l with
      | nil => have := ih ([], true); simpa [valD, nx] using this
      | cons x l => have := ih (l, k); simp [valD, nx] at this ⊢; omega
  have hn : ∀ c : Cur, (nx c).2.1.length ≤ c.1.length := by
    rintro ⟨l, k⟩; cases l <;> simp [nx]
  have hnum : ∀ (n : Nat) (c : Cur), (numD n c).2.1.length ≤ c.1.length := hv
  have hsib : ∀ r rm c, (sibD r rm c).2.1.length ≤ c.1.length := by
    intro r rm c; unfold sibD; split
    · exact hn c
    · exact Nat.le_refl _
  have hdisp : ∀ rm c, (dispD rm c).2.1.length ≤ c.1.length := by
    intro rm c; unfold dispD; split
    · exact hnum 1 c
    · split
      · exact hnum 4 c
      · exact Nat.le_refl _
  have hmov : ∀ op r rm c, (movD op r rm c).2.1.length ≤ c.1.length := by
    intro op r rm c; unfold movD; exact Nat.le_trans (hdisp _ _) (hsib _ _ _)
  have hwide : ∀ r c, (wideR r c).2.1.length ≤ c.1.length := by
    intro r c
    have h1 := hn c
    have h2 := hn (nx c).2
    have h3 := hn (nx (nx c).2).2
    unfold wideR wideRB
    repeat' split
    · unfold pairB; exact Nat.le_trans h2 h1
    · exact Nat.le_trans (hmov _ _ _ _) (Nat.le_trans h2 h1)
    · exact Nat.le_trans (hmov _ _ _ _) (Nat.le_trans h2 h1)
    · unfold storeB; split
      · unfold pairB; exact Nat.le_trans h2 h1
      · exact Nat.le_trans (hmov _ _ _ _) (Nat.le_trans h2 h1)
    · unfold immB; exact Nat.le_trans (hnum _ _) h1
    · unfold cmovB; exact Nat.le_trans h3 (Nat.le_trans h2 h1)
    · unfold grpR; split
      · exact Nat.le_trans (hnum _ _) (Nat.le_trans h2 h1)
      · split
        · unfold pairB; exact Nat.le_trans h2 h1
        · unfold grpC; split
          · exact Nat.le_trans h2 h1
          · exact Nat.le_trans (hnum _ _) (Nat.le_trans h2 h1)
  cases l with
  | nil => exact hwide 0 ([], true)
  | cons b r =>
    have g0 := hn (r, k)
    have g1 := hn (nx (r, k)).2
    have g2 := hn (nx (nx (r, k)).2).2
    have g3 := hn (nx (nx (nx (r, k)).2).2).2
    have g4 := hn (nx (nx (nx (nx (r, k)).2).2).2).2
    have i0 := hnum 4 (r, k)
    have i1 := hnum 4 (nx (r, k)).2
    have w0 := hwide b (r, k)
    simp only at g0 i0 w0
    rw [anyR]
    repeat' split
    all_goals simp only [chainD, List.length_cons]
    all_goals omega
theorem anyR_left (s : ByteArray) (k : Bool) : (anyR (bytesOf s) k).2.1.length ≤ s.size := by
  have := anyR_left' (bytesOf s) k
  rwa [bytesOf_length] at this
theorem rinst7_lack (code : ByteArray) (a : Nat) (h : a < code.size) (hl : code.size ≤ 1000000) (x : Ins) (l : List Int) (hok : x.ok) (hlen : l.length ≤ (restS code a).size)
    (hA : ∀ b, Ctr Try.prog 30 [.pointer (some ⟨b, 0, none⟩)] [(b, cR (restS code a) ((bytesOf code).drop a, false))] tt (is x.V [(b, cR (restS code a) (l, true))]))  :
    Ctr Try.prog 13 [.string code, .int .i64 a] [] tt (is (.tuple #[zeroI.V, .int .i64 0, .int .i64 4]) []) := by
  have c1 := cm_lo' (show (0 : Int) ≤ a by omega)
  have c2 := cm_gt' (show (a : Int) ≤ code.size by omega)
  have c3 := cm_no (show (a : Int) ≠ code.size by omega)
  have hsz := restS_size code a (by omega)
  have c4 : ar .add .i64 (a : Int) (((restS code a).size - l.length : Nat) : Int) = ((a + ((restS code a).size - l.length) : Nat) : Int) := wrap_nat (by omega)
  have hE := rinst_S x hok
  refine Ctr.enter Try.func13 Try.ntmps13 rfl rfl (fun w _ => ?_)
  repeat (first | refine Af ?_ | refine Ac ?_ | refine Aa ?_ | refine Ae ?_ | refine Ad ?_ | refine Ag ?_ | refine Ah ?_ | refine As ?_ | refine Aq (fun _ => ?_) | refine L.box (c := fun _ => ?_) | refine Aj ?_ | refine Ax ?_ | refine Aw ?_ | refine L.lenS (c := ?_) | refine Ap ?_ | refine L.sliceS (lo := a) (hi := code.size) (by exact rfl) (by exact rfl) (by exact .inr ⟨_, _, rfl, rfl⟩) (by exact .inl ⟨rfl, rfl⟩) (by omega) (by omega) ?_)
  rw [cR_rest]
  repeat (first | refine Af ?_ | refine Ac ?_ | refine Aa ?_ | refine Ae ?_ | refine Ad ?_ | refine Ag ?_ | refine Ay ?_ | refine Ak 1 ?_ | refine Al 0 ?_ | refine Ab 0 ?_ | refine Ab 2 ?_ | refine Bd ?_ | refine As ?_ | refine Aq (fun _ => ?_) | refine L.nilCheck (k := ?_) | refine Am ?_ | refine Be ?_ | refine Bf ?_ | refine L.not (c := ?_) | refine An ?_ | refine Av ?_ | refine L.call1 0 (hA _) (by exact rfl) (by exact rfl) (by exact rfl) (fun _ _ => trivial) (by simp only [hset]; rfl) ?_ | refine L.callQ hE (by exact rfl) (by exact rfl) (fun _ _ => trivial) ?_ | refine L.sliceS (lo := a) (hi := a + ((restS code a).size - l.length)) (by exact rfl) (by exact rfl) (by exact .inr ⟨_, _, rfl, rfl⟩) (by exact .inr ⟨_, _, rfl, rfl⟩) (by omega) (by omega) ?_)
  refine D.ret (vs := [zeroI.V, .int .i64 0, .int .i64 4]) ?_ ?_
  · exact RV.cellA 2 rfl rfl rfl rfl rfl (RV.tmp rfl (RV.tmp rfl RV.nil))
  · intro w' hw
    exact Post.mk (is := []) hw (by decide) rfl ⟨rfl, rfl⟩
theorem rinst7_chk (code : ByteArray) (a : Nat) (h : a < code.size) (hl : code.size ≤ 1000000) (x : Ins) (l : List Int) (hok : x.ok) (hlen : l.length ≤ (restS code a).size)
    (hA : ∀ b, Ctr Try.prog 30 [.pointer (some ⟨b, 0, none⟩)] [(b, cR (restS code a) ((bytesOf code).drop a, false))] tt (is x.V [(b, cR (restS code a) (l, false))])) (hc : x.chk = false) :
    Ctr Try.prog 13 [.string code, .int .i64 a] [] tt (is (.tuple #[zeroI.V, .int .i64 0, .int .i64 4]) []) := by
  have c1 := cm_lo' (show (0 : Int) ≤ a by omega)
  have c2 := cm_gt' (show (a : Int) ≤ code.size by omega)
  have c3 := cm_no (show (a : Int) ≠ code.size by omega)
  have hsz := restS_size code a (by omega)
  have c4 : ar .add .i64 (a : Int) (((restS code a).size - l.length : Nat) : Int) = ((a + ((restS code a).size - l.length) : Nat) : Int) := wrap_nat (by omega)
  have c5 : cm .neq (errOf x.chk) 0 = true := by rw [hc]; rfl
  have hE := rinst_S x hok
  refine Ctr.enter Try.func13 Try.ntmps13 rfl rfl (fun w _ => ?_)
  repeat (first | refine Af ?_ | refine Ac ?_ | refine Aa ?_ | refine Ae ?_ | refine Ad ?_ | refine Ag ?_ | refine Ah ?_ | refine As ?_ | refine Aq (fun _ => ?_) | refine L.box (c := fun _ => ?_) | refine Aj ?_ | refine Ax ?_ | refine Aw ?_ | refine L.lenS (c := ?_) | refine Ap ?_ | refine L.sliceS (lo := a) (hi := code.size) (by exact rfl) (by exact rfl) (by exact .inr ⟨_, _, rfl, rfl⟩) (by exact .inl ⟨rfl, rfl⟩) (by omega) (by omega) ?_)
  rw [cR_rest]
  repeat (first | refine Af ?_ | refine Ac ?_ | refine Aa ?_ | refine Ae ?_ | refine Ad ?_ | refine Ag ?_ | refine Ah ?_ | refine Ay ?_ | refine Ak 1 ?_ | refine Al 0 ?_ | refine Ab 0 ?_ | refine Ab 2 ?_ | refine Bd ?_ | refine As ?_ | refine Aq (fun _ => ?_) | refine L.nilCheck (k := ?_) | refine Am ?_ | refine Be ?_ | refine Ax ?_ | refine Aw ?_ | refine Bf ?_ | refine L.not (c := ?_) | refine An ?_ | refine Av ?_ | refine L.call1 0 (hA _) (by exact rfl) (by exact rfl) (by exact rfl) (fun _ _ => trivial) (by simp only [hset]; rfl) ?_ | refine L.callQ hE (by exact rfl) (by exact rfl) (fun _ _ => trivial) ?_ | refine L.sliceS (lo := a) (hi := a + ((restS code a).size - l.length)) (by exact rfl) (by exact rfl) (by exact .inr ⟨_, _, rfl, rfl⟩) (by exact .inr ⟨_, _, rfl, rfl⟩) (by omega) (by omega) ?_)
  refine D.ret (vs := [zeroI.V, .int .i64 0, .int .i64 4]) ?_ ?_
  · exact RV.cellA 2 rfl rfl rfl rfl rfl (RV.tmp rfl (RV.tmp rfl RV.nil))
  · intro w' hw
    exact Post.mk (is := []) hw (by decide) rfl ⟨rfl, rfl⟩
theorem rinst7_size (code : ByteArray) (a : Nat) (h : a < code.size) (hl : code.size ≤ 1000000) (x : Ins) (l : List Int) (hok : x.ok) (hlen : l.length ≤ (restS code a).size)
    (hA : ∀ b, Ctr Try.prog 30 [.pointer (some ⟨b, 0, none⟩)] [(b, cR (restS code a) ((bytesOf code).drop a, false))] tt (is x.V [(b, cR (restS code a) (l, false))])) (hc : x.chk = true) (hu : (restS code a).size - l.length ≠ x.out.size) :
    Ctr Try.prog 13 [.string code, .int .i64 a] [] tt (is (.tuple #[zeroI.V, .int .i64 0, .int .i64 4]) []) := by
  have c1 := cm_lo' (show (0 : Int) ≤ a by omega)
  have c2 := cm_gt' (show (a : Int) ≤ code.size by omega)
  have c3 := cm_no (show (a : Int) ≠ code.size by omega)
  have hsz := restS_size code a (by omega)
  have c4 : ar .add .i64 (a : Int) (((restS code a).size - l.length : Nat) : Int) = ((a + ((restS code a).size - l.length) : Nat) : Int) := wrap_nat (by omega)
  have c5 : cm .neq (errOf x.chk) 0 = false := by rw [hc]; rfl
  have c6 : cm .neq (((restS code a).size - l.length : Nat) : Int) (x.out.size : Int) = true := cmR_ne (by omega)
  have hE := rinst_S x hok
  refine Ctr.enter Try.func13 Try.ntmps13 rfl rfl (fun w _ => ?_)
  repeat (first | refine Af ?_ | refine Ac ?_ | refine Aa ?_ | refine Ae ?_ | refine Ad ?_ | refine Ag ?_ | refine Ah ?_ | refine As ?_ | refine Aq (fun _ => ?_) | refine L.box (c := fun _ => ?_) | refine Aj ?_ | refine Ax ?_ | refine Aw ?_ | refine L.lenS (c := ?_) | refine Ap ?_ | refine L.sliceS (lo := a) (hi := code.size) (by exact rfl) (by exact rfl) (by exact .inr ⟨_, _, rfl, rfl⟩) (by exact .inl ⟨rfl, rfl⟩) (by omega) (by omega) ?_)
  rw [cR_rest]
  repeat (first | refine Af ?_ | refine Ac ?_ | refine Aa ?_ | refine Ae ?_ | refine Ad ?_ | refine Ag ?_ | refine Ah ?_ | refine Ay ?_ | refine Ak 1 ?_ | refine Al 0 ?_ | refine Ab 0 ?_ | refine Ab 2 ?_ | refine Bd ?_ | refine As ?_ | refine Aq (fun _ => ?_) | refine L.nilCheck (k := ?_) | refine Am ?_ | refine Be ?_ | refine Ax ?_ | refine Aw ?_ | refine Bf ?_ | refine L.not (c := ?_) | refine L.lenS (c := ?_) | refine An ?_ | refine Av ?_ | refine L.call1 0 (hA _) (by exact rfl) (by exact rfl) (by exact rfl) (fun _ _ => trivial) (by simp only [hset]; rfl) ?_ | refine L.callQ hE (by exact rfl) (by exact rfl) (fun _ _ => trivial) ?_ | refine L.sliceS (lo := a) (hi := a + ((restS code a).size - l.length)) (by exact rfl) (by exact rfl) (by exact .inr ⟨_, _, rfl, rfl⟩) (by exact .inr ⟨_, _, rfl, rfl⟩) (by omega) (by omega) ?_)
  refine D.ret (vs := [zeroI.V, .int .i64 0, .int .i64 4]) ?_ ?_
  · exact RV.cellA 2 rfl rfl rfl rfl rfl (RV.tmp rfl (RV.tmp rfl RV.nil))
  · intro w' hw
    exact Post.mk (is := []) hw (by decide) rfl ⟨rfl, rfl⟩
theorem rinst7_str (code : ByteArray) (a : Nat) (h : a < code.size) (hl : code.size ≤ 1000000) (x : Ins) (l : List Int) (hok : x.ok) (hlen : l.length ≤ (restS code a).size)
    (hA : ∀ b, Ctr Try.prog 30 [.pointer (some ⟨b, 0, none⟩)] [(b, cR (restS code a) ((bytesOf code).drop a, false))] tt (is x.V [(b, cR (restS code a) (l, false))])) (hc : x.chk = true) (hu : (restS code a).size - l.length = x.out.size) (hs : sne (code.extract a (a + ((restS code a).size - l.length))) x.out = true) :
    Ctr Try.prog 13 [.string code, .int .i64 a] [] tt (is (.tuple #[zeroI.V, .int .i64 0, .int .i64 4]) []) := by
  have c1 := cm_lo' (show (0 : Int) ≤ a by omega)
  have c2 := cm_gt' (show (a : Int) ≤ code.size by omega)
  have c3 := cm_no (show (a : Int) ≠ code.size by omega)
  have hsz := restS_size code a (by omega)
  have c4 : ar .add .i64 (a : Int) (((restS code a).size - l.length : Nat) : Int) = ((a + ((restS code a).size - l.length) : Nat) : Int) := wrap_nat (by omega)
  have c5 : cm .neq (errOf x.chk) 0 = false := by rw [hc]; rfl
  have c6 : cm .neq (((restS code a).size - l.length : Nat) : Int) (x.out.size : Int) = false := cmR_ne' (by omega)
  have hE := rinst_S x hok
  refine Ctr.enter Try.func13 Try.ntmps13 rfl rfl (fun w _ => ?_)
  repeat (first | refine Af ?_ | refine Ac ?_ | refine Aa ?_ | refine Ae ?_ | refine Ad ?_ | refine Ag ?_ | refine Ah ?_ | refine As ?_ | refine Aq (fun _ => ?_) | refine L.box (c := fun _ => ?_) | refine Aj ?_ | refine Ax ?_ | refine Aw ?_ | refine L.lenS (c := ?_) | refine Ap ?_ | refine L.sliceS (lo := a) (hi := code.size) (by exact rfl) (by exact rfl) (by exact .inr ⟨_, _, rfl, rfl⟩) (by exact .inl ⟨rfl, rfl⟩) (by omega) (by omega) ?_)
  rw [cR_rest]
  repeat (first | refine Af ?_ | refine Ac ?_ | refine Aa ?_ | refine Ae ?_ | refine Ad ?_ | refine Ag ?_ | refine Ah ?_ | refine Ao ?_ | refine Ay ?_ | refine Ak 1 ?_ | refine Al 0 ?_ | refine Ab 0 ?_ | refine Ab 2 ?_ | refine Bd ?_ | refine As ?_ | refine Aq (fun _ => ?_) | refine L.nilCheck (k := ?_) | refine Am ?_ | refine Ax ?_ | refine Aw ?_ | refine L.not (c := ?_) | refine L.lenS (c := ?_) | refine L.strNe (c := ?_) | refine An ?_ | refine Av ?_ | refine L.call1 0 (hA _) (by exact rfl) (by exact rfl) (by exact rfl) (fun _ _ => trivial) (by simp only [hset]; rfl) ?_ | refine L.callQ hE (by exact rfl) (by exact rfl) (fun _ _ => trivial) ?_ | refine L.sliceS (lo := a) (hi := a + ((restS code a).size - l.length)) (by exact rfl) (by exact rfl) (by exact .inr ⟨_, _, rfl, rfl⟩) (by exact .inr ⟨_, _, rfl, rfl⟩) (by omega) (by omega) ?_)
  refine D.ret (vs := [zeroI.V, .int .i64 0, .int .i64 4]) ?_ ?_
  · exact RV.cellA 2 rfl rfl rfl rfl rfl (RV.tmp rfl (RV.tmp rfl RV.nil))
  · intro w' hw
    exact Post.mk (is := []) hw (by decide) rfl ⟨rfl, rfl⟩
theorem rinst7_good (code : ByteArray) (a : Nat) (h : a < code.size) (hl : code.size ≤ 1000000) (x : Ins) (l : List Int) (hok : x.ok) (hlen : l.length ≤ (restS code a).size)
    (hA : ∀ b, Ctr Try.prog 30 [.pointer (some ⟨b, 0, none⟩)] [(b, cR (restS code a) ((bytesOf code).drop a, false))] tt (is x.V [(b, cR (restS code a) (l, false))])) (hc : x.chk = true) (hu : (restS code a).size - l.length = x.out.size) (hs : sne (code.extract a (a + ((restS code a).size - l.length))) x.out = false) :
    Ctr Try.prog 13 [.string code, .int .i64 a] [] tt (is (.tuple #[x.V, .int .i64 (((restS code a).size - l.length : Nat) : Int), .int .i64 0]) []) := by
  have c1 := cm_lo' (show (0 : Int) ≤ a by omega)
  have c2 := cm_gt' (show (a : Int) ≤ code.size by omega)
  have c3 := cm_no (show (a : Int) ≠ code.size by omega)
  have hsz := restS_size code a (by omega)
  have c4 : ar .add .i64 (a : Int) (((restS code a).size - l.length : Nat) : Int) = ((a + ((restS code a).size - l.length) : Nat) : Int) := wrap_nat (by omega)
  have c5 : cm .neq (errOf x.chk) 0 = false := by rw [hc]; rfl
  have c6 : cm .neq (((restS code a).size - l.length : Nat) : Int) (x.out.size : Int) = false := cmR_ne' (by omega)
  have hE := rinst_S x hok
  refine Ctr.enter Try.func13 Try.ntmps13 rfl rfl (fun w _ => ?_)
  repeat (first | refine Af ?_ | refine Ac ?_ | refine Aa ?_ | refine Ae ?_ | refine Ad ?_ | refine Ag ?_ | refine Ah ?_ | refine As ?_ | refine Aq (fun _ => ?_) | refine L.box (c := fun _ => ?_) | refine Aj ?_ | refine Ax ?_ | refine Aw ?_ | refine L.lenS (c := ?_) | refine Ap ?_ | refine L.sliceS (lo := a) (hi := code.size) (by exact rfl) (by exact rfl) (by exact .inr ⟨_, _, rfl, rfl⟩) (by exact .inl ⟨rfl, rfl⟩) (by omega) (by omega) ?_)
  rw [cR_rest]
  repeat (first | refine Af ?_ | refine Ac ?_ | refine Aa ?_ | refine Ae ?_ | refine Ad ?_ | refine Ag ?_ | refine Ah ?_ | refine Ao ?_ | refine Ay ?_ | refine Ak 1 ?_ | refine Al 0 ?_ | refine Ab 0 ?_ | refine Bd ?_ | refine Aq (fun _ => ?_) | refine L.nilCheck (k := ?_) | refine Aj ?_ | refine Ax ?_ | refine Aw ?_ | refine L.not (c := ?_) | refine L.lenS (c := ?_) | refine L.strNe (c := ?_) | refine Ap ?_ | refine L.call1 0 (hA _) (by exact rfl) (by exact rfl) (by exact rfl) (fun _ _ => trivial) (by simp only [hset]; rfl) ?_ | refine L.callQ hE (by exact rfl) (by exact rfl) (fun _ _ => trivial) ?_ | refine L.sliceS (lo := a) (hi := a + ((restS code a).size - l.length)) (by exact rfl) (by exact rfl) (by exact .inr ⟨_, _, rfl, rfl⟩) (by exact .inr ⟨_, _, rfl, rfl⟩) (by omega) (by omega) ?_)
  refine C.draw (by kernel_rfl) ?_
  refine N.take 1 (by exact rfl) (Clm.move (by exact rfl)) (by exact rfl) (by kernel_rfl) (by kernel_rfl) (by kernel_rfl) (fun _ _ _ h => h) (by exact rfl) ?_
  refine N.take 2 (by exact rfl) (Clm.nilCheck (by exact rfl)) (by exact rfl) (by kernel_rfl) (by kernel_rfl) (by kernel_rfl) (fun _ _ _ h => h) (by exact rfl) ?_
  refine N.take 3 (by exact rfl) (Clm.fieldAddr (by exact rfl)) (by exact rfl) (by kernel_rfl) (by kernel_rfl) (by kernel_rfl) (fun _ _ _ h => h) (by exact rfl) ?_
  repeat' (first | refine Aa ?_ | refine Ae ?_ | refine Ag ?_ | refine Ak 1 ?_ | refine Al 0 ?_ | refine Ab 2 ?_ | refine An ?_ | refine D.any ?_ | refine N.fin (h := ?_) | refine N.one (i := 0) (h := ?_) | refine N.one (i := 4) (h := ?_) | refine N.one (i := 5) (h := ?_) | refine N.one (i := 6) (h := ?_) | refine N.one (i := 7) (h := ?_) | refine N.two (i := 0) (j := 4) (by decide +kernel) (by exact rfl) (by exact rfl) (by exact rfl) (by exact rfl) ?_ ?_ | refine N.two (i := 0) (j := 5) (by decide +kernel) (by exact rfl) (by exact rfl) (by exact rfl) (by exact rfl) ?_ ?_ | refine N.two (i := 0) (j := 6) (by decide +kernel) (by exact rfl) (by exact rfl) (by exact rfl) (by exact rfl) ?_ ?_ | refine N.two (i := 0) (j := 7) (by decide +kernel) (by exact rfl) (by exact rfl) (by exact rfl) (by exact rfl) ?_ ?_ | refine N.two (i := 4) (j := 5) (by decide +kernel) (by exact rfl) (by exact rfl) (by exact rfl) (by exact rfl) ?_ ?_ | refine N.two (i := 4) (j := 6) (by decide +kernel) (by exact rfl) (by exact rfl) (by exact rfl) (by exact rfl) ?_ ?_ | refine N.two (i := 4) (j := 7) (by decide +kernel) (by exact rfl) (by exact rfl) (by exact rfl) (by exact rfl) ?_ ?_ | refine N.two (i := 5) (j := 6) (by decide +kernel) (by exact rfl) (by exact rfl) (by exact rfl) (by exact rfl) ?_ ?_ | refine N.two (i := 5) (j := 7) (by decide +kernel) (by exact rfl) (by exact rfl) (by exact rfl) (by exact rfl) ?_ ?_ | refine N.two (i := 6) (j := 7) (by decide +kernel) (by exact rfl) (by exact rfl) (by exact rfl) (by exact rfl) ?_ ?_)
  all_goals
    refine D.ret (vs := [x.V, .int .i64 (((restS code a).size - l.length : Nat) : Int), .int .i64 0]) ?_ ?_
    · exact RV.cellA 2 rfl rfl rfl rfl rfl (RV.tmp rfl (RV.tmp rfl RV.nil))
    · intro w' hw
      exact Post.mk (is := []) hw (by decide) rfl ⟨rfl, rfl⟩
theorem rd7_eq (code : ByteArray) (a : Nat) : rdR7 ((bytesOf code).drop a) = rdD ((bytesOf code).drop a) := rdR7_eq _ (anyR_ok _ (bytes_byte code a) false) (bytes_byte code a)
theorem rinst7_S (code : ByteArray) (a : Nat) (h : a < code.size) (hl : code.size ≤ 1000000) :
    Ctr Try.prog 13 [.string code, .int .i64 a] [] tt (is (.tuple #[(rdD ((bytesOf code).drop a)).1.V, .int .i64 (rdD ((bytesOf code).drop a)).2.1, .int .i64 (rdD ((bytesOf code).drop a)).2.2]) []) := by
  rw [← rd7_eq]
  have hok := anyR_ok ((bytesOf code).drop a) (bytes_byte code a) false
  have hA := fun b => anyR_S b (restS code a) (bytesOf (restS code a), false) (by rw [restS_size code a (by omega)]; omega) (suf_start _)
  have hlen := anyR_left (restS code a) false
  simp only at hA
  rw [restS_bytes] at hA hlen
  have hs0 := restS_size code a (by omega)
  have hL : ((bytesOf code).drop a).length = (restS code a).size := by rw [← restS_bytes, bytesOf_length]
  unfold rdR7 goodR usedR
  rw [hL]
  generalize hX : anyR ((bytesOf code).drop a) false = X at hok hA hlen ⊢
  obtain ⟨x, l, k⟩ := X
  simp only at hok hA hlen ⊢
  cases k
  · cases hc : x.chk
    · exact rinst7_chk code a h hl x l hok hlen hA hc
    · have hb : bytesOf x.out = x.enc := by rw [Ins.out_ok hc, bytesOf_strB (Ins.enc_bytes hc).1]
      have hsz : x.out.size = x.enc.length := by rw [← hb, bytesOf_length]
      have hs := sne_eq (code.extract a (a + ((restS code a).size - l.length))) x.out
      rw [hb, bytesOf_mid _ _ _ (by omega)] at hs
      by_cases hu : (restS code a).size - l.length = x.out.size
      · by_cases he : x.enc = ((bytesOf code).drop a).take ((restS code a).size - l.length)
        · rw [decide_eq_true he.symm] at hs
          rw [decide_eq_true he, decide_eq_true (show (restS code a).size - l.length ≤ (restS code a).size by omega)]
          exact rinst7_good code a h hl x l hok hlen hA hc hu hs
        · rw [decide_eq_false (fun e => he e.symm)] at hs
          rw [decide_eq_false he]
          exact rinst7_str code a h hl x l hok hlen hA hc hu hs
      · have he : ¬ x.enc = ((bytesOf code).drop a).take ((restS code a).size - l.length) := by
          intro e
          have := congrArg List.length e
          rw [List.length_take, hL] at this
          omega
        rw [decide_eq_false he]
        exact rinst7_size code a h hl x l hok hlen hA hc hu
  · exact rinst7_lack code a h hl x l hok hlen hA
end Go.Proofs.Ytbcaelhchmoigaa
