/- The scanner's put while an iterator is at work: a word is told to its caller. -/
import Derived.Test.YtbackpcohkblfaaSc5
import Derived.Test.YtbackpcohkblfaaSepSW
set_option linter.unusedVariables false
set_option linter.unusedSimpArgs false
namespace Go.Proofs.Ytbackpcohkblfaa
open Go Go.RowKit SL
attribute [local irreducible] SL.L SL.C SL.D SL.N SL.H SL.QL SL.QW

abbrev yv (l : Nat) : Value := .func (.yield l) #[] #[]
abbrev encY (t : Tok) : List Value := [t.V]
abbrev ItT (l : Nat) (J Jx : List Tok → List Nat → World → Prop) (w : World) (Bk : List Nat) (V : List Tok → Tok → Prop) : Prop := ItW Try.prog l (fun t : Tok => (encY t).toArray) J Jx w Bk V
set_option maxRecDepth 100000 in
set_option maxHeartbeats 16000000 in
theorem wput_S {l : Nat} {J Jx : List Tok → List Nat → World → Prop} {w0 : World} {Bk : List Nat} {V : List Tok → Tok → Prop} (hit : ItT l J Jx w0 Bk V) (b : Nat) (s : ByteArray) (k a e : Int) (st : Bool) (f to : Nat) (hf : f ≤ to) (ht : to ≤ s.size) (kd : Int) (pre : List Tok) (hV : V pre ⟨kd, s.extract f to, f⟩) :
    CtrW Try.prog 41 [.pointer (some ⟨b, 0, none⟩), .int .i64 kd, .int .i64 (to : Int)] [(b, sc s (yv l) k f a e st)] (J pre)
      (fun v B I' => (v = .bool true ∧ B = [(b, sc s (yv l) k f a e false)] ∧ I' = J (pre ++ [⟨kd, s.extract f to, f⟩])) ∨ (v = .bool false ∧ B = [(b, sc s (yv l) k f a e true)] ∧ I' = Jx (pre ++ [⟨kd, s.extract f to, f⟩]))) := by
  refine CtrW.enter Try.func41 Try.ntmps41 rfl rfl (fun F w hJ => ?_)
  simp only [List.singleton_append] at hJ ⊢
  refine C.seq ?_
  refine C.region ?_
  refine L.assign (k := ?_)
  refine L.nil ?_
  refine D.seq ?_
  refine C.seq ?_
  refine C.draw (by kernel_rfl) ?_
  refine N.take 0 rfl (Clm.move rfl) rfl (by decide +kernel) (by decide +kernel) (by decide +kernel) (fun _ _ _ h => h) rfl ?_
  refine N.take 1 rfl (Clm.move rfl) rfl (by decide +kernel) (by decide +kernel) (by decide +kernel) (fun _ _ _ h => h) rfl ?_
  refine N.take 2 rfl (Clm.nilCheck rfl) rfl (by decide +kernel) (by decide +kernel) (by decide +kernel) (fun _ _ _ h => h) rfl ?_
  refine N.take 3 rfl (Clm.fieldAddr rfl) rfl (by decide +kernel) (by decide +kernel) (by decide +kernel) (fun _ _ _ h => h) rfl ?_
  refine N.take 5 rfl (Clm.move rfl) rfl (by decide +kernel) (by decide +kernel) (by decide +kernel) (fun _ _ _ h => h) rfl ?_
  refine N.take 6 rfl (Clm.move rfl) rfl (by decide +kernel) (by decide +kernel) (by decide +kernel) (fun _ _ _ h => h) rfl ?_
  refine N.take 7 rfl (Clm.nilCheck rfl) rfl (by decide +kernel) (by decide +kernel) (by decide +kernel) (fun _ _ _ h => h) rfl ?_
  refine N.take 8 rfl (Clm.fieldAddr rfl) rfl (by decide +kernel) (by decide +kernel) (by decide +kernel) (fun _ _ _ h => h) rfl ?_
  refine N.take 10 rfl (Clm.move rfl) rfl (by decide +kernel) (by decide +kernel) (by decide +kernel) (fun _ _ _ h => h) rfl ?_
  refine N.take 11 rfl (Clm.nilCheck rfl) rfl (by decide +kernel) (by decide +kernel) (by decide +kernel) (fun _ _ _ h => h) rfl ?_
  refine N.take 12 rfl (Clm.fieldAddr rfl) rfl (by decide +kernel) (by decide +kernel) (by decide +kernel) (fun _ _ _ h => h) rfl ?_
  refine N.take 14 rfl (Clm.move rfl) rfl (by decide +kernel) (by decide +kernel) (by decide +kernel) (fun _ _ _ h => h) rfl ?_
  refine N.take 16 rfl (Clm.move rfl) rfl (by decide +kernel) (by decide +kernel) (by decide +kernel) (fun _ _ _ h => h) rfl ?_
  refine N.take 17 rfl (Clm.nilCheck rfl) rfl (by decide +kernel) (by decide +kernel) (by decide +kernel) (fun _ _ _ h => h) rfl ?_
  refine N.take 18 rfl (Clm.fieldAddr rfl) rfl (by decide +kernel) (by decide +kernel) (by decide +kernel) (fun _ _ _ h => h) rfl ?_
  refine N.any (rs := [4, 9, 13, 19]) (by decide +kernel) (by simp) (List.forall_mem_cons.2 ⟨⟨_, rfl, ?_⟩, List.forall_mem_cons.2 ⟨⟨_, rfl, ?_⟩, List.forall_mem_cons.2 ⟨⟨_, rfl, ?_⟩, List.forall_mem_cons.2 ⟨⟨_, rfl, ?_⟩, fun _ h => absurd h List.not_mem_nil⟩⟩⟩⟩)
  · refine L.load1 0 (c := ?_)
    refine L.nil ?_
    refine D.any ?_
    refine N.any (rs := [9, 13, 19]) (by decide +kernel) (by simp) (List.forall_mem_cons.2 ⟨⟨_, rfl, ?_⟩, List.forall_mem_cons.2 ⟨⟨_, rfl, ?_⟩, List.forall_mem_cons.2 ⟨⟨_, rfl, ?_⟩, fun _ h => absurd h List.not_mem_nil⟩⟩⟩)
    · refine L.load1 0 (c := ?_)
      refine L.nil ?_
      refine D.any ?_
      refine N.any (rs := [13, 19]) (by decide +kernel) (by simp) (List.forall_mem_cons.2 ⟨⟨_, rfl, ?_⟩, List.forall_mem_cons.2 ⟨⟨_, rfl, ?_⟩, fun _ h => absurd h List.not_mem_nil⟩⟩)
      · refine L.load1 0 (c := ?_)
        refine L.nil ?_
        refine D.any ?_
        refine N.take 15 rfl (Clm.sliceS (lo := f) (hi := to) rfl (.inr ⟨_, _, rfl, rfl⟩) (.inr ⟨_, _, rfl, rfl⟩) hf ht) rfl (by decide +kernel) (by decide +kernel) (by decide +kernel) (fun _ _ _ h => h) rfl ?_
        refine N.one (i := 19) (h := ?_)
        refine L.load1 0 (c := ?_)
        refine L.nil ?_
        refine D.any ?_
        refine N.take 20 rfl (Clm.build rfl rfl) rfl (by decide +kernel) (by decide +kernel) (by decide +kernel) (fun _ _ _ h => h) rfl ?_
        refine N.one (i := 21) (h := ?_)
        refine L.yieldW hit ⟨kd, s.extract f to, f⟩ hJ hV (by exact rfl) (by exact rfl) (by exact rfl) (by exact rfl) (fun W' hJ' => ?_) (fun W' hJ' => ?_)
        all_goals
          refine L.nil ?_
          refine D.anyR (h := ?_)
          refine N.take 22 rfl (Clm.not rfl) rfl (by decide +kernel) (by decide +kernel) (by decide +kernel) (fun _ _ _ h => h) rfl ?_
          refine N.take 23 rfl (Clm.nilCheck rfl) rfl (by decide +kernel) (by decide +kernel) (by decide +kernel) (fun _ _ _ h => h) rfl ?_
          refine N.take 24 rfl (Clm.fieldAddr rfl) rfl (by decide +kernel) (by decide +kernel) (by decide +kernel) (fun _ _ _ h => h) rfl ?_
          refine N.one (i := 25) (h := ?_)
          refine L.storeV 0 (c := ?_)
          refine L.nil ?_
          refine D.any ?_
          refine N.fin (h := ?_)
          repeat (first | refine C.seq ?_ | refine C.region ?_ | refine L.nil ?_ | refine D.seq ?_ | refine L.move (k := ?_) | refine L.assign (k := ?_) | refine L.cm (c := ?_) | refine L.ar (c := ?_) | refine L.fieldAddr (c := ?_) | refine L.load1 0 (c := ?_) | refine L.load1 1 (c := ?_) | refine L.load1 2 (c := ?_) | refine L.load1 3 (c := ?_) | refine L.load1 4 (c := ?_) | refine L.loadA 0 (c := ?_) | refine L.loadA 1 (c := ?_) | refine L.loadA 2 (c := ?_) | refine L.loadA 3 (c := ?_) | refine L.loadA 4 (c := ?_) | refine L.storeV 0 (c := ?_) | refine L.storeV 1 (c := ?_) | refine L.storeV 2 (c := ?_) | refine L.storeV 3 (c := ?_) | refine L.storeV 4 (c := ?_) | refine L.extract (c := ?_) | refine L.build (c := ?_) | refine L.alloc (c := fun _ => ?_) | refine L.box (c := fun _ => ?_) | refine L.nilCheck (k := ?_) | refine C.yes (h1 := ?_) | refine C.no (h1 := ?_) | refine L.pickT (k := ?_) | refine L.pickF (k := ?_) | refine L.want (k := ?_) | refine L.pass (k := ?_) | refine L.not (c := ?_) | refine L.lenS (c := ?_) | refine L.strNe (c := ?_) | refine L.strEq (c := ?_) | refine L.lenV (c := ?_) | refine C.block ?_ | refine D.blkNormal ?_ | refine C.ret ?_ | refine D.thenRet ?_ | refine D.blkRet ?_ | refine C.exit ?_ | refine D.thenExit ?_ | refine D.blkExit ?_ | refine D.blkOther (h := ?_) | refine C.skip ?_ | refine L.convI (c := ?_) | refine L.makeMap (c := fun _ => ?_) | refine D.any ?_ | refine D.seqR (h := ?_) | refine L.eqA (c := ?_) | refine L.neA (c := ?_) | refine L.funNil (c := ?_) | refine L.eqB (c := ?_) | refine L.neB (c := ?_) | refine L.passU (k := ?_) | refine L.makeFunc (k := ?_) | refine L.buildS (c := fun _ => ?_) | exact D.endsQ | refine QL.fin ?_ | refine C.quiet (h := ?_) | refine C.mixed (h := ?_) | refine QW.fin (h := ?_) | refine QW.load 0 (k := ?_) | refine QW.load 1 (k := ?_) | refine QW.load 2 (k := ?_) | refine QW.load 3 (k := ?_) | refine QW.load 4 (k := ?_) | refine QW.load 5 (k := ?_) | refine QW.loadA 0 (k := ?_) | refine QW.loadA 1 (k := ?_) | refine QW.loadA 2 (k := ?_) | refine QW.loadA 3 (k := ?_) | refine QW.loadA 4 (k := ?_) | refine QW.loadA 5 (k := ?_) | refine QW.store 0 (k := ?_) | refine QW.store 1 (k := ?_) | refine QW.store 2 (k := ?_) | refine QW.store 3 (k := ?_) | refine QW.store 4 (k := ?_) | refine QW.store 5 (k := ?_) | (refine QW.free (v := ?_) (by exact rfl) (by exact rfl) (fun w1 hk1 => ?_) ?_; rotate_left) | refine N.fin (h := ?_) | refine L.assertY (c := ?_) | refine L.assertN (c := ?_) | refine N.one (i := 0) (h := ?_) | refine N.one (i := 1) (h := ?_) | refine N.one (i := 2) (h := ?_) | refine N.one (i := 3) (h := ?_) | refine N.one (i := 4) (h := ?_) | refine N.one (i := 5) (h := ?_) | refine N.one (i := 6) (h := ?_) | refine N.one (i := 7) (h := ?_) | refine N.one (i := 8) (h := ?_) | refine N.one (i := 9) (h := ?_) | refine N.one (i := 10) (h := ?_) | refine N.one (i := 11) (h := ?_) | (refine QL.step (v := ?_) (by exact rfl) (by exact rfl) ?_ ?_; rotate_left))
        · exact D.ret (vs := [.bool true]) (RV.tmp rfl RV.nil) (fun w' hw => PostW.mkD (hit.aj _) hJ' 0 hw rfl (.inl ⟨rfl, rfl, rfl⟩))
        · exact D.ret (vs := [.bool false]) (RV.tmp rfl RV.nil) (fun w' hw => PostW.mkD (hit.ax _) hJ' 0 hw rfl (.inr ⟨rfl, rfl, rfl⟩))
      · refine L.load1 0 (c := ?_)
        refine L.nil ?_
        refine D.any ?_
        refine N.one (i := 13) (h := ?_)
        refine L.load1 0 (c := ?_)
        refine L.nil ?_
        refine D.any ?_
        refine N.take 15 rfl (Clm.sliceS (lo := f) (hi := to) rfl (.inr ⟨_, _, rfl, rfl⟩) (.inr ⟨_, _, rfl, rfl⟩) hf ht) rfl (by decide +kernel) (by decide +kernel) (by decide +kernel) (fun _ _ _ h => h) rfl ?_
        refine N.take 20 rfl (Clm.build rfl rfl) rfl (by decide +kernel) (by decide +kernel) (by decide +kernel) (fun _ _ _ h => h) rfl ?_
        refine N.one (i := 21) (h := ?_)
        refine L.yieldW hit ⟨kd, s.extract f to, f⟩ hJ hV (by exact rfl) (by exact rfl) (by exact rfl) (by exact rfl) (fun W' hJ' => ?_) (fun W' hJ' => ?_)
        all_goals
          refine L.nil ?_
          refine D.anyR (h := ?_)
          refine N.take 22 rfl (Clm.not rfl) rfl (by decide +kernel) (by decide +kernel) (by decide +kernel) (fun _ _ _ h => h) rfl ?_
          refine N.take 23 rfl (Clm.nilCheck rfl) rfl (by decide +kernel) (by decide +kernel) (by decide +kernel) (fun _ _ _ h => h) rfl ?_
          refine N.take 24 rfl (Clm.fieldAddr rfl) rfl (by decide +kernel) (by decide +kernel) (by decide +kernel) (fun _ _ _ h => h) rfl ?_
          refine N.one (i := 25) (h := ?_)
          refine L.storeV 0 (c := ?_)
          refine L.nil ?_
          refine D.any ?_
          refine N.fin (h := ?_)
          repeat (first | refine C.seq ?_ | refine C.region ?_ | refine L.nil ?_ | refine D.seq ?_ | refine L.move (k := ?_) | refine L.assign (k := ?_) | refine L.cm (c := ?_) | refine L.ar (c := ?_) | refine L.fieldAddr (c := ?_) | refine L.load1 0 (c := ?_) | refine L.load1 1 (c := ?_) | refine L.load1 2 (c := ?_) | refine L.load1 3 (c := ?_) | refine L.load1 4 (c := ?_) | refine L.loadA 0 (c := ?_) | refine L.loadA 1 (c := ?_) | refine L.loadA 2 (c := ?_) | refine L.loadA 3 (c := ?_) | refine L.loadA 4 (c := ?_) | refine L.storeV 0 (c := ?_) | refine L.storeV 1 (c := ?_) | refine L.storeV 2 (c := ?_) | refine L.storeV 3 (c := ?_) | refine L.storeV 4 (c := ?_) | refine L.extract (c := ?_) | refine L.build (c := ?_) | refine L.alloc (c := fun _ => ?_) | refine L.box (c := fun _ => ?_) | refine L.nilCheck (k := ?_) | refine C.yes (h1 := ?_) | refine C.no (h1 := ?_) | refine L.pickT (k := ?_) | refine L.pickF (k := ?_) | refine L.want (k := ?_) | refine L.pass (k := ?_) | refine L.not (c := ?_) | refine L.lenS (c := ?_) | refine L.strNe (c := ?_) | refine L.strEq (c := ?_) | refine L.lenV (c := ?_) | refine C.block ?_ | refine D.blkNormal ?_ | refine C.ret ?_ | refine D.thenRet ?_ | refine D.blkRet ?_ | refine C.exit ?_ | refine D.thenExit ?_ | refine D.blkExit ?_ | refine D.blkOther (h := ?_) | refine C.skip ?_ | refine L.convI (c := ?_) | refine L.makeMap (c := fun _ => ?_) | refine D.any ?_ | refine D.seqR (h := ?_) | refine L.eqA (c := ?_) | refine L.neA (c := ?_) | refine L.funNil (c := ?_) | refine L.eqB (c := ?_) | refine L.neB (c := ?_) | refine L.passU (k := ?_) | refine L.makeFunc (k := ?_) | refine L.buildS (c := fun _ => ?_) | exact D.endsQ | refine QL.fin ?_ | refine C.quiet (h := ?_) | refine C.mixed (h := ?_) | refine QW.fin (h := ?_) | refine QW.load 0 (k := ?_) | refine QW.load 1 (k := ?_) | refine QW.load 2 (k := ?_) | refine QW.load 3 (k := ?_) | refine QW.load 4 (k := ?_) | refine QW.load 5 (k := ?_) | refine QW.loadA 0 (k := ?_) | refine QW.loadA 1 (k := ?_) | refine QW.loadA 2 (k := ?_) | refine QW.loadA 3 (k := ?_) | refine QW.loadA 4 (k := ?_) | refine QW.loadA 5 (k := ?_) | refine QW.store 0 (k := ?_) | refine QW.store 1 (k := ?_) | refine QW.store 2 (k := ?_) | refine QW.store 3 (k := ?_) | refine QW.store 4 (k := ?_) | refine QW.store 5 (k := ?_) | (refine QW.free (v := ?_) (by exact rfl) (by exact rfl) (fun w1 hk1 => ?_) ?_; rotate_left) | refine N.fin (h := ?_) | refine L.assertY (c := ?_) | refine L.assertN (c := ?_) | refine N.one (i := 0) (h := ?_) | refine N.one (i := 1) (h := ?_) | refine N.one (i := 2) (h := ?_) | refine N.one (i := 3) (h := ?_) | refine N.one (i := 4) (h := ?_) | refine N.one (i := 5) (h := ?_) | refine N.one (i := 6) (h := ?_) | refine N.one (i := 7) (h := ?_) | refine N.one (i := 8) (h := ?_) | refine N.one (i := 9) (h := ?_) | refine N.one (i := 10) (h := ?_) | refine N.one (i := 11) (h := ?_) | (refine QL.step (v := ?_) (by exact rfl) (by exact rfl) ?_ ?_; rotate_left))
        · exact D.ret (vs := [.bool true]) (RV.tmp rfl RV.nil) (fun w' hw => PostW.mkD (hit.aj _) hJ' 0 hw rfl (.inl ⟨rfl, rfl, rfl⟩))
        · exact D.ret (vs := [.bool false]) (RV.tmp rfl RV.nil) (fun w' hw => PostW.mkD (hit.ax _) hJ' 0 hw rfl (.inr ⟨rfl, rfl, rfl⟩))
    · refine L.load1 0 (c := ?_)
      refine L.nil ?_
      refine D.any ?_
      refine N.any (rs := [9, 19]) (by decide +kernel) (by simp) (List.forall_mem_cons.2 ⟨⟨_, rfl, ?_⟩, List.forall_mem_cons.2 ⟨⟨_, rfl, ?_⟩, fun _ h => absurd h List.not_mem_nil⟩⟩)
      · refine L.load1 0 (c := ?_)
        refine L.nil ?_
        refine D.any ?_
        refine N.take 15 rfl (Clm.sliceS (lo := f) (hi := to) rfl (.inr ⟨_, _, rfl, rfl⟩) (.inr ⟨_, _, rfl, rfl⟩) hf ht) rfl (by decide +kernel) (by decide +kernel) (by decide +kernel) (fun _ _ _ h => h) rfl ?_
        refine N.one (i := 19) (h := ?_)
        refine L.load1 0 (c := ?_)
        refine L.nil ?_
        refine D.any ?_
        refine N.take 20 rfl (Clm.build rfl rfl) rfl (by decide +kernel) (by decide +kernel) (by decide +kernel) (fun _ _ _ h => h) rfl ?_
        refine N.one (i := 21) (h := ?_)
        refine L.yieldW hit ⟨kd, s.extract f to, f⟩ hJ hV (by exact rfl) (by exact rfl) (by exact rfl) (by exact rfl) (fun W' hJ' => ?_) (fun W' hJ' => ?_)
        all_goals
          refine L.nil ?_
          refine D.anyR (h := ?_)
          refine N.take 22 rfl (Clm.not rfl) rfl (by decide +kernel) (by decide +kernel) (by decide +kernel) (fun _ _ _ h => h) rfl ?_
          refine N.take 23 rfl (Clm.nilCheck rfl) rfl (by decide +kernel) (by decide +kernel) (by decide +kernel) (fun _ _ _ h => h) rfl ?_
          refine N.take 24 rfl (Clm.fieldAddr rfl) rfl (by decide +kernel) (by decide +kernel) (by decide +kernel) (fun _ _ _ h => h) rfl ?_
          refine N.one (i := 25) (h := ?_)
          refine L.storeV 0 (c := ?_)
          refine L.nil ?_
          refine D.any ?_
          refine N.fin (h := ?_)
          repeat (first | refine C.seq ?_ | refine C.region ?_ | refine L.nil ?_ | refine D.seq ?_ | refine L.move (k := ?_) | refine L.assign (k := ?_) | refine L.cm (c := ?_) | refine L.ar (c := ?_) | refine L.fieldAddr (c := ?_) | refine L.load1 0 (c := ?_) | refine L.load1 1 (c := ?_) | refine L.load1 2 (c := ?_) | refine L.load1 3 (c := ?_) | refine L.load1 4 (c := ?_) | refine L.loadA 0 (c := ?_) | refine L.loadA 1 (c := ?_) | refine L.loadA 2 (c := ?_) | refine L.loadA 3 (c := ?_) | refine L.loadA 4 (c := ?_) | refine L.storeV 0 (c := ?_) | refine L.storeV 1 (c := ?_) | refine L.storeV 2 (c := ?_) | refine L.storeV 3 (c := ?_) | refine L.storeV 4 (c := ?_) | refine L.extract (c := ?_) | refine L.build (c := ?_) | refine L.alloc (c := fun _ => ?_) | refine L.box (c := fun _ => ?_) | refine L.nilCheck (k := ?_) | refine C.yes (h1 := ?_) | refine C.no (h1 := ?_) | refine L.pickT (k := ?_) | refine L.pickF (k := ?_) | refine L.want (k := ?_) | refine L.pass (k := ?_) | refine L.not (c := ?_) | refine L.lenS (c := ?_) | refine L.strNe (c := ?_) | refine L.strEq (c := ?_) | refine L.lenV (c := ?_) | refine C.block ?_ | refine D.blkNormal ?_ | refine C.ret ?_ | refine D.thenRet ?_ | refine D.blkRet ?_ | refine C.exit ?_ | refine D.thenExit ?_ | refine D.blkExit ?_ | refine D.blkOther (h := ?_) | refine C.skip ?_ | refine L.convI (c := ?_) | refine L.makeMap (c := fun _ => ?_) | refine D.any ?_ | refine D.seqR (h := ?_) | refine L.eqA (c := ?_) | refine L.neA (c := ?_) | refine L.funNil (c := ?_) | refine L.eqB (c := ?_) | refine L.neB (c := ?_) | refine L.passU (k := ?_) | refine L.makeFunc (k := ?_) | refine L.buildS (c := fun _ => ?_) | exact D.endsQ | refine QL.fin ?_ | refine C.quiet (h := ?_) | refine C.mixed (h := ?_) | refine QW.fin (h := ?_) | refine QW.load 0 (k := ?_) | refine QW.load 1 (k := ?_) | refine QW.load 2 (k := ?_) | refine QW.load 3 (k := ?_) | refine QW.load 4 (k := ?_) | refine QW.load 5 (k := ?_) | refine QW.loadA 0 (k := ?_) | refine QW.loadA 1 (k := ?_) | refine QW.loadA 2 (k := ?_) | refine QW.loadA 3 (k := ?_) | refine QW.loadA 4 (k := ?_) | refine QW.loadA 5 (k := ?_) | refine QW.store 0 (k := ?_) | refine QW.store 1 (k := ?_) | refine QW.store 2 (k := ?_) | refine QW.store 3 (k := ?_) | refine QW.store 4 (k := ?_) | refine QW.store 5 (k := ?_) | (refine QW.free (v := ?_) (by exact rfl) (by exact rfl) (fun w1 hk1 => ?_) ?_; rotate_left) | refine N.fin (h := ?_) | refine L.assertY (c := ?_) | refine L.assertN (c := ?_) | refine N.one (i := 0) (h := ?_) | refine N.one (i := 1) (h := ?_) | refine N.one (i := 2) (h := ?_) | refine N.one (i := 3) (h := ?_) | refine N.one (i := 4) (h := ?_) | refine N.one (i := 5) (h := ?_) | refine N.one (i := 6) (h := ?_) | refine N.one (i := 7) (h := ?_) | refine N.one (i := 8) (h := ?_) | refine N.one (i := 9) (h := ?_) | refine N.one (i := 10) (h := ?_) | refine N.one (i := 11) (h := ?_) | (refine QL.step (v := ?_) (by exact rfl) (by exact rfl) ?_ ?_; rotate_left))
        · exact D.ret (vs := [.bool true]) (RV.tmp rfl RV.nil) (fun w' hw => PostW.mkD (hit.aj _) hJ' 0 hw rfl (.inl ⟨rfl, rfl, rfl⟩))
        · exact D.ret (vs := [.bool false]) (RV.tmp rfl RV.nil) (fun w' hw => PostW.mkD (hit.ax _) hJ' 0 hw rfl (.inr ⟨rfl, rfl, rfl⟩))
      · refine L.load1 0 (c := ?_)
        refine L.nil ?_
        refine D.any ?_
        refine N.one (i := 9) (h := ?_)
        refine L.load1 0 (c := ?_)
        refine L.nil ?_
        refine D.any ?_
        refine N.take 15 rfl (Clm.sliceS (lo := f) (hi := to) rfl (.inr ⟨_, _, rfl, rfl⟩) (.inr ⟨_, _, rfl, rfl⟩) hf ht) rfl (by decide +kernel) (by decide +kernel) (by decide +kernel) (fun _ _ _ h => h) rfl ?_
        refine N.take 20 rfl (Clm.build rfl rfl) rfl (by decide +kernel) (by decide +kernel) (by decide +kernel) (fun _ _ _ h => h) rfl ?_
        refine N.one (i := 21) (h := ?_)
        refine L.yieldW hit ⟨kd, s.extract f to, f⟩ hJ hV (by exact rfl) (by exact rfl) (by exact rfl) (by exact rfl) (fun W' hJ' => ?_) (fun W' hJ' => ?_)
        all_goals
          refine L.nil ?_
          refine D.anyR (h := ?_)
          refine N.take 22 rfl (Clm.not rfl) rfl (by decide +kernel) (by decide +kernel) (by decide +kernel) (fun _ _ _ h => h) rfl ?_
          refine N.take 23 rfl (Clm.nilCheck rfl) rfl (by decide +kernel) (by decide +kernel) (by decide +kernel) (fun _ _ _ h => h) rfl ?_
          refine N.take 24 rfl (Clm.fieldAddr rfl) rfl (by decide +kernel) (by decide +kernel) (by decide +kernel) (fun _ _ _ h => h) rfl ?_
          refine N.one (i := 25) (h := ?_)
          refine L.storeV 0 (c := ?_)
          refine L.nil ?_
          refine D.any ?_
          refine N.fin (h := ?_)
          repeat (first | refine C.seq ?_ | refine C.region ?_ | refine L.nil ?_ | refine D.seq ?_ | refine L.move (k := ?_) | refine L.assign (k := ?_) | refine L.cm (c := ?_) | refine L.ar (c := ?_) | refine L.fieldAddr (c := ?_) | refine L.load1 0 (c := ?_) | refine L.load1 1 (c := ?_) | refine L.load1 2 (c := ?_) | refine L.load1 3 (c := ?_) | refine L.load1 4 (c := ?_) | refine L.loadA 0 (c := ?_) | refine L.loadA 1 (c := ?_) | refine L.loadA 2 (c := ?_) | refine L.loadA 3 (c := ?_) | refine L.loadA 4 (c := ?_) | refine L.storeV 0 (c := ?_) | refine L.storeV 1 (c := ?_) | refine L.storeV 2 (c := ?_) | refine L.storeV 3 (c := ?_) | refine L.storeV 4 (c := ?_) | refine L.extract (c := ?_) | refine L.build (c := ?_) | refine L.alloc (c := fun _ => ?_) | refine L.box (c := fun _ => ?_) | refine L.nilCheck (k := ?_) | refine C.yes (h1 := ?_) | refine C.no (h1 := ?_) | refine L.pickT (k := ?_) | refine L.pickF (k := ?_) | refine L.want (k := ?_) | refine L.pass (k := ?_) | refine L.not (c := ?_) | refine L.lenS (c := ?_) | refine L.strNe (c := ?_) | refine L.strEq (c := ?_) | refine L.lenV (c := ?_) | refine C.block ?_ | refine D.blkNormal ?_ | refine C.ret ?_ | refine D.thenRet ?_ | refine D.blkRet ?_ | refine C.exit ?_ | refine D.thenExit ?_ | refine D.blkExit ?_ | refine D.blkOther (h := ?_) | refine C.skip ?_ | refine L.convI (c := ?_) | refine L.makeMap (c := fun _ => ?_) | refine D.any ?_ | refine D.seqR (h := ?_) | refine L.eqA (c := ?_) | refine L.neA (c := ?_) | refine L.funNil (c := ?_) | refine L.eqB (c := ?_) | refine L.neB (c := ?_) | refine L.passU (k := ?_) | refine L.makeFunc (k := ?_) | refine L.buildS (c := fun _ => ?_) | exact D.endsQ | refine QL.fin ?_ | refine C.quiet (h := ?_) | refine C.mixed (h := ?_) | refine QW.fin (h := ?_) | refine QW.load 0 (k := ?_) | refine QW.load 1 (k := ?_) | refine QW.load 2 (k := ?_) | refine QW.load 3 (k := ?_) | refine QW.load 4 (k := ?_) | refine QW.load 5 (k := ?_) | refine QW.loadA 0 (k := ?_) | refine QW.loadA 1 (k := ?_) | refine QW.loadA 2 (k := ?_) | refine QW.loadA 3 (k := ?_) | refine QW.loadA 4 (k := ?_) | refine QW.loadA 5 (k := ?_) | refine QW.store 0 (k := ?_) | refine QW.store 1 (k := ?_) | refine QW.store 2 (k := ?_) | refine QW.store 3 (k := ?_) | refine QW.store 4 (k := ?_) | refine QW.store 5 (k := ?_) | (refine QW.free (v := ?_) (by exact rfl) (by exact rfl) (fun w1 hk1 => ?_) ?_; rotate_left) | refine N.fin (h := ?_) | refine L.assertY (c := ?_) | refine L.assertN (c := ?_) | refine N.one (i := 0) (h := ?_) | refine N.one (i := 1) (h := ?_) | refine N.one (i := 2) (h := ?_) | refine N.one (i := 3) (h := ?_) | refine N.one (i := 4) (h := ?_) | refine N.one (i := 5) (h := ?_) | refine N.one (i := 6) (h := ?_) | refine N.one (i := 7) (h := ?_) | refine N.one (i := 8) (h := ?_) | refine N.one (i := 9) (h := ?_) | refine N.one (i := 10) (h := ?_) | refine N.one (i := 11) (h := ?_) | (refine QL.step (v := ?_) (by exact rfl) (by exact rfl) ?_ ?_; rotate_left))
        · exact D.ret (vs := [.bool true]) (RV.tmp rfl RV.nil) (fun w' hw => PostW.mkD (hit.aj _) hJ' 0 hw rfl (.inl ⟨rfl, rfl, rfl⟩))
        · exact D.ret (vs := [.bool false]) (RV.tmp rfl RV.nil) (fun w' hw => PostW.mkD (hit.ax _) hJ' 0 hw rfl (.inr ⟨rfl, rfl, rfl⟩))
    · refine L.load1 0 (c := ?_)
      refine L.nil ?_
      refine D.any ?_
      refine N.any (rs := [9, 13]) (by decide +kernel) (by simp) (List.forall_mem_cons.2 ⟨⟨_, rfl, ?_⟩, List.forall_mem_cons.2 ⟨⟨_, rfl, ?_⟩, fun _ h => absurd h List.not_mem_nil⟩⟩)
      · refine L.load1 0 (c := ?_)
        refine L.nil ?_
        refine D.any ?_
        refine N.one (i := 13) (h := ?_)
        refine L.load1 0 (c := ?_)
        refine L.nil ?_
        refine D.any ?_
        refine N.take 15 rfl (Clm.sliceS (lo := f) (hi := to) rfl (.inr ⟨_, _, rfl, rfl⟩) (.inr ⟨_, _, rfl, rfl⟩) hf ht) rfl (by decide +kernel) (by decide +kernel) (by decide +kernel) (fun _ _ _ h => h) rfl ?_
        refine N.take 20 rfl (Clm.build rfl rfl) rfl (by decide +kernel) (by decide +kernel) (by decide +kernel) (fun _ _ _ h => h) rfl ?_
        refine N.one (i := 21) (h := ?_)
        refine L.yieldW hit ⟨kd, s.extract f to, f⟩ hJ hV (by exact rfl) (by exact rfl) (by exact rfl) (by exact rfl) (fun W' hJ' => ?_) (fun W' hJ' => ?_)
        all_goals
          refine L.nil ?_
          refine D.anyR (h := ?_)
          refine N.take 22 rfl (Clm.not rfl) rfl (by decide +kernel) (by decide +kernel) (by decide +kernel) (fun _ _ _ h => h) rfl ?_
          refine N.take 23 rfl (Clm.nilCheck rfl) rfl (by decide +kernel) (by decide +kernel) (by decide +kernel) (fun _ _ _ h => h) rfl ?_
          refine N.take 24 rfl (Clm.fieldAddr rfl) rfl (by decide +kernel) (by decide +kernel) (by decide +kernel) (fun _ _ _ h => h) rfl ?_
          refine N.one (i := 25) (h := ?_)
          refine L.storeV 0 (c := ?_)
          refine L.nil ?_
          refine D.any ?_
          refine N.fin (h := ?_)
          repeat (first | refine C.seq ?_ | refine C.region ?_ | refine L.nil ?_ | refine D.seq ?_ | refine L.move (k := ?_) | refine L.assign (k := ?_) | refine L.cm (c := ?_) | refine L.ar (c := ?_) | refine L.fieldAddr (c := ?_) | refine L.load1 0 (c := ?_) | refine L.load1 1 (c := ?_) | refine L.load1 2 (c := ?_) | refine L.load1 3 (c := ?_) | refine L.load1 4 (c := ?_) | refine L.loadA 0 (c := ?_) | refine L.loadA 1 (c := ?_) | refine L.loadA 2 (c := ?_) | refine L.loadA 3 (c := ?_) | refine L.loadA 4 (c := ?_) | refine L.storeV 0 (c := ?_) | refine L.storeV 1 (c := ?_) | refine L.storeV 2 (c := ?_) | refine L.storeV 3 (c := ?_) | refine L.storeV 4 (c := ?_) | refine L.extract (c := ?_) | refine L.build (c := ?_) | refine L.alloc (c := fun _ => ?_) | refine L.box (c := fun _ => ?_) | refine L.nilCheck (k := ?_) | refine C.yes (h1 := ?_) | refine C.no (h1 := ?_) | refine L.pickT (k := ?_) | refine L.pickF (k := ?_) | refine L.want (k := ?_) | refine L.pass (k := ?_) | refine L.not (c := ?_) | refine L.lenS (c := ?_) | refine L.strNe (c := ?_) | refine L.strEq (c := ?_) | refine L.lenV (c := ?_) | refine C.block ?_ | refine D.blkNormal ?_ | refine C.ret ?_ | refine D.thenRet ?_ | refine D.blkRet ?_ | refine C.exit ?_ | refine D.thenExit ?_ | refine D.blkExit ?_ | refine D.blkOther (h := ?_) | refine C.skip ?_ | refine L.convI (c := ?_) | refine L.makeMap (c := fun _ => ?_) | refine D.any ?_ | refine D.seqR (h := ?_) | refine L.eqA (c := ?_) | refine L.neA (c := ?_) | refine L.funNil (c := ?_) | refine L.eqB (c := ?_) | refine L.neB (c := ?_) | refine L.passU (k := ?_) | refine L.makeFunc (k := ?_) | refine L.buildS (c := fun _ => ?_) | exact D.endsQ | refine QL.fin ?_ | refine C.quiet (h := ?_) | refine C.mixed (h := ?_) | refine QW.fin (h := ?_) | refine QW.load 0 (k := ?_) | refine QW.load 1 (k := ?_) | refine QW.load 2 (k := ?_) | refine QW.load 3 (k := ?_) | refine QW.load 4 (k := ?_) | refine QW.load 5 (k := ?_) | refine QW.loadA 0 (k := ?_) | refine QW.loadA 1 (k := ?_) | refine QW.loadA 2 (k := ?_) | refine QW.loadA 3 (k := ?_) | refine QW.loadA 4 (k := ?_) | refine QW.loadA 5 (k := ?_) | refine QW.store 0 (k := ?_) | refine QW.store 1 (k := ?_) | refine QW.store 2 (k := ?_) | refine QW.store 3 (k := ?_) | refine QW.store 4 (k := ?_) | refine QW.store 5 (k := ?_) | (refine QW.free (v := ?_) (by exact rfl) (by exact rfl) (fun w1 hk1 => ?_) ?_; rotate_left) | refine N.fin (h := ?_) | refine L.assertY (c := ?_) | refine L.assertN (c := ?_) | refine N.one (i := 0) (h := ?_) | refine N.one (i := 1) (h := ?_) | refine N.one (i := 2) (h := ?_) | refine N.one (i := 3) (h := ?_) | refine N.one (i := 4) (h := ?_) | refine N.one (i := 5) (h := ?_) | refine N.one (i := 6) (h := ?_) | refine N.one (i := 7) (h := ?_) | refine N.one (i := 8) (h := ?_) | refine N.one (i := 9) (h := ?_) | refine N.one (i := 10) (h := ?_) | refine N.one (i := 11) (h := ?_) | (refine QL.step (v := ?_) (by exact rfl) (by exact rfl) ?_ ?_; rotate_left))
        · exact D.ret (vs := [.bool true]) (RV.tmp rfl RV.nil) (fun w' hw => PostW.mkD (hit.aj _) hJ' 0 hw rfl (.inl ⟨rfl, rfl, rfl⟩))
        · exact D.ret (vs := [.bool false]) (RV.tmp rfl RV.nil) (fun w' hw => PostW.mkD (hit.ax _) hJ' 0 hw rfl (.inr ⟨rfl, rfl, rfl⟩))
      · refine L.load1 0 (c := ?_)
        refine L.nil ?_
        refine D.any ?_
        refine N.one (i := 9) (h := ?_)
        refine L.load1 0 (c := ?_)
        refine L.nil ?_
        refine D.any ?_
        refine N.take 15 rfl (Clm.sliceS (lo := f) (hi := to) rfl (.inr ⟨_, _, rfl, rfl⟩) (.inr ⟨_, _, rfl, rfl⟩) hf ht) rfl (by decide +kernel) (by decide +kernel) (by decide +kernel) (fun _ _ _ h => h) rfl ?_
        refine N.take 20 rfl (Clm.build rfl rfl) rfl (by decide +kernel) (by decide +kernel) (by decide +kernel) (fun _ _ _ h => h) rfl ?_
        refine N.one (i := 21) (h := ?_)
        refine L.yieldW hit ⟨kd, s.extract f to, f⟩ hJ hV (by exact rfl) (by exact rfl) (by exact rfl) (by exact rfl) (fun W' hJ' => ?_) (fun W' hJ' => ?_)
        all_goals
          refine L.nil ?_
          refine D.anyR (h := ?_)
          refine N.take 22 rfl (Clm.not rfl) rfl (by decide +kernel) (by decide +kernel) (by decide +kernel) (fun _ _ _ h => h) rfl ?_
          refine N.take 23 rfl (Clm.nilCheck rfl) rfl (by decide +kernel) (by decide +kernel) (by decide +kernel) (fun _ _ _ h => h) rfl ?_
          refine N.take 24 rfl (Clm.fieldAddr rfl) rfl (by decide +kernel) (by decide +kernel) (by decide +kernel) (fun _ _ _ h => h) rfl ?_
          refine N.one (i := 25) (h := ?_)
          refine L.storeV 0 (c := ?_)
          refine L.nil ?_
          refine D.any ?_
          refine N.fin (h := ?_)
          repeat (first | refine C.seq ?_ | refine C.region ?_ | refine L.nil ?_ | refine D.seq ?_ | refine L.move (k := ?_) | refine L.assign (k := ?_) | refine L.cm (c := ?_) | refine L.ar (c := ?_) | refine L.fieldAddr (c := ?_) | refine L.load1 0 (c := ?_) | refine L.load1 1 (c := ?_) | refine L.load1 2 (c := ?_) | refine L.load1 3 (c := ?_) | refine L.load1 4 (c := ?_) | refine L.loadA 0 (c := ?_) | refine L.loadA 1 (c := ?_) | refine L.loadA 2 (c := ?_) | refine L.loadA 3 (c := ?_) | refine L.loadA 4 (c := ?_) | refine L.storeV 0 (c := ?_) | refine L.storeV 1 (c := ?_) | refine L.storeV 2 (c := ?_) | refine L.storeV 3 (c := ?_) | refine L.storeV 4 (c := ?_) | refine L.extract (c := ?_) | refine L.build (c := ?_) | refine L.alloc (c := fun _ => ?_) | refine L.box (c := fun _ => ?_) | refine L.nilCheck (k := ?_) | refine C.yes (h1 := ?_) | refine C.no (h1 := ?_) | refine L.pickT (k := ?_) | refine L.pickF (k := ?_) | refine L.want (k := ?_) | refine L.pass (k := ?_) | refine L.not (c := ?_) | refine L.lenS (c := ?_) | refine L.strNe (c := ?_) | refine L.strEq (c := ?_) | refine L.lenV (c := ?_) | refine C.block ?_ | refine D.blkNormal ?_ | refine C.ret ?_ | refine D.thenRet ?_ | refine D.blkRet ?_ | refine C.exit ?_ | refine D.thenExit ?_ | refine D.blkExit ?_ | refine D.blkOther (h := ?_) | refine C.skip ?_ | refine L.convI (c := ?_) | refine L.makeMap (c := fun _ => ?_) | refine D.any ?_ | refine D.seqR (h := ?_) | refine L.eqA (c := ?_) | refine L.neA (c := ?_) | refine L.funNil (c := ?_) | refine L.eqB (c := ?_) | refine L.neB (c := ?_) | refine L.passU (k := ?_) | refine L.makeFunc (k := ?_) | refine L.buildS (c := fun _ => ?_) | exact D.endsQ | refine QL.fin ?_ | refine C.quiet (h := ?_) | refine C.mixed (h := ?_) | refine QW.fin (h := ?_) | refine QW.load 0 (k := ?_) | refine QW.load 1 (k := ?_) | refine QW.load 2 (k := ?_) | refine QW.load 3 (k := ?_) | refine QW.load 4 (k := ?_) | refine QW.load 5 (k := ?_) | refine QW.loadA 0 (k := ?_) | refine QW.loadA 1 (k := ?_) | refine QW.loadA 2 (k := ?_) | refine QW.loadA 3 (k := ?_) | refine QW.loadA 4 (k := ?_) | refine QW.loadA 5 (k := ?_) | refine QW.store 0 (k := ?_) | refine QW.store 1 (k := ?_) | refine QW.store 2 (k := ?_) | refine QW.store 3 (k := ?_) | refine QW.store 4 (k := ?_) | refine QW.store 5 (k := ?_) | (refine QW.free (v := ?_) (by exact rfl) (by exact rfl) (fun w1 hk1 => ?_) ?_; rotate_left) | refine N.fin (h := ?_) | refine L.assertY (c := ?_) | refine L.assertN (c := ?_) | refine N.one (i := 0) (h := ?_) | refine N.one (i := 1) (h := ?_) | refine N.one (i := 2) (h := ?_) | refine N.one (i := 3) (h := ?_) | refine N.one (i := 4) (h := ?_) | refine N.one (i := 5) (h := ?_) | refine N.one (i := 6) (h := ?_) | refine N.one (i := 7) (h := ?_) | refine N.one (i := 8) (h := ?_) | refine N.one (i := 9) (h := ?_) | refine N.one (i := 10) (h := ?_) | refine N.one (i := 11) (h := ?_) | (refine QL.step (v := ?_) (by exact rfl) (by exact rfl) ?_ ?_; rotate_left))
        · exact D.ret (vs := [.bool true]) (RV.tmp rfl RV.nil) (fun w' hw => PostW.mkD (hit.aj _) hJ' 0 hw rfl (.inl ⟨rfl, rfl, rfl⟩))
        · exact D.ret (vs := [.bool false]) (RV.tmp rfl RV.nil) (fun w' hw => PostW.mkD (hit.ax _) hJ' 0 hw rfl (.inr ⟨rfl, rfl, rfl⟩))
  · refine L.load1 0 (c := ?_)
    refine L.nil ?_
    refine D.any ?_
    refine N.any (rs := [4, 13, 19]) (by decide +kernel) (by simp) (List.forall_mem_cons.2 ⟨⟨_, rfl, ?_⟩, List.forall_mem_cons.2 ⟨⟨_, rfl, ?_⟩, List.forall_mem_cons.2 ⟨⟨_, rfl, ?_⟩, fun _ h => absurd h List.not_mem_nil⟩⟩⟩)
    · refine L.load1 0 (c := ?_)
      refine L.nil ?_
      refine D.any ?_
      refine N.any (rs := [13, 19]) (by decide +kernel) (by simp) (List.forall_mem_cons.2 ⟨⟨_, rfl, ?_⟩, List.forall_mem_cons.2 ⟨⟨_, rfl, ?_⟩, fun _ h => absurd h List.not_mem_nil⟩⟩)
      · refine L.load1 0 (c := ?_)
        refine L.nil ?_
        refine D.any ?_
        refine N.take 15 rfl (Clm.sliceS (lo := f) (hi := to) rfl (.inr ⟨_, _, rfl, rfl⟩) (.inr ⟨_, _, rfl, rfl⟩) hf ht) rfl (by decide +kernel) (by decide +kernel) (by decide +kernel) (fun _ _ _ h => h) rfl ?_
        refine N.one (i := 19) (h := ?_)
        refine L.load1 0 (c := ?_)
        refine L.nil ?_
        refine D.any ?_
        refine N.take 20 rfl (Clm.build rfl rfl) rfl (by decide +kernel) (by decide +kernel) (by decide +kernel) (fun _ _ _ h => h) rfl ?_
        refine N.one (i := 21) (h := ?_)
        refine L.yieldW hit ⟨kd, s.extract f to, f⟩ hJ hV (by exact rfl) (by exact rfl) (by exact rfl) (by exact rfl) (fun W' hJ' => ?_) (fun W' hJ' => ?_)
        all_goals
          refine L.nil ?_
          refine D.anyR (h := ?_)
          refine N.take 22 rfl (Clm.not rfl) rfl (by decide +kernel) (by decide +kernel) (by decide +kernel) (fun _ _ _ h => h) rfl ?_
          refine N.take 23 rfl (Clm.nilCheck rfl) rfl (by decide +kernel) (by decide +kernel) (by decide +kernel) (fun _ _ _ h => h) rfl ?_
          refine N.take 24 rfl (Clm.fieldAddr rfl) rfl (by decide +kernel) (by decide +kernel) (by decide +kernel) (fun _ _ _ h => h) rfl ?_
          refine N.one (i := 25) (h := ?_)
          refine L.storeV 0 (c := ?_)
          refine L.nil ?_
          refine D.any ?_
          refine N.fin (h := ?_)
          repeat (first | refine C.seq ?_ | refine C.region ?_ | refine L.nil ?_ | refine D.seq ?_ | refine L.move (k := ?_) | refine L.assign (k := ?_) | refine L.cm (c := ?_) | refine L.ar (c := ?_) | refine L.fieldAddr (c := ?_) | refine L.load1 0 (c := ?_) | refine L.load1 1 (c := ?_) | refine L.load1 2 (c := ?_) | refine L.load1 3 (c := ?_) | refine L.load1 4 (c := ?_) | refine L.loadA 0 (c := ?_) | refine L.loadA 1 (c := ?_) | refine L.loadA 2 (c := ?_) | refine L.loadA 3 (c := ?_) | refine L.loadA 4 (c := ?_) | refine L.storeV 0 (c := ?_) | refine L.storeV 1 (c := ?_) | refine L.storeV 2 (c := ?_) | refine L.storeV 3 (c := ?_) | refine L.storeV 4 (c := ?_) | refine L.extract (c := ?_) | refine L.build (c := ?_) | refine L.alloc (c := fun _ => ?_) | refine L.box (c := fun _ => ?_) | refine L.nilCheck (k := ?_) | refine C.yes (h1 := ?_) | refine C.no (h1 := ?_) | refine L.pickT (k := ?_) | refine L.pickF (k := ?_) | refine L.want (k := ?_) | refine L.pass (k := ?_) | refine L.not (c := ?_) | refine L.lenS (c := ?_) | refine L.strNe (c := ?_) | refine L.strEq (c := ?_) | refine L.lenV (c := ?_) | refine C.block ?_ | refine D.blkNormal ?_ | refine C.ret ?_ | refine D.thenRet ?_ | refine D.blkRet ?_ | refine C.exit ?_ | refine D.thenExit ?_ | refine D.blkExit ?_ | refine D.blkOther (h := ?_) | refine C.skip ?_ | refine L.convI (c := ?_) | refine L.makeMap (c := fun _ => ?_) | refine D.any ?_ | refine D.seqR (h := ?_) | refine L.eqA (c := ?_) | refine L.neA (c := ?_) | refine L.funNil (c := ?_) | refine L.eqB (c := ?_) | refine L.neB (c := ?_) | refine L.passU (k := ?_) | refine L.makeFunc (k := ?_) | refine L.buildS (c := fun _ => ?_) | exact D.endsQ | refine QL.fin ?_ | refine C.quiet (h := ?_) | refine C.mixed (h := ?_) | refine QW.fin (h := ?_) | refine QW.load 0 (k := ?_) | refine QW.load 1 (k := ?_) | refine QW.load 2 (k := ?_) | refine QW.load 3 (k := ?_) | refine QW.load 4 (k := ?_) | refine QW.load 5 (k := ?_) | refine QW.loadA 0 (k := ?_) | refine QW.loadA 1 (k := ?_) | refine QW.loadA 2 (k := ?_) | refine QW.loadA 3 (k := ?_) | refine QW.loadA 4 (k := ?_) | refine QW.loadA 5 (k := ?_) | refine QW.store 0 (k := ?_) | refine QW.store 1 (k := ?_) | refine QW.store 2 (k := ?_) | refine QW.store 3 (k := ?_) | refine QW.store 4 (k := ?_) | refine QW.store 5 (k := ?_) | (refine QW.free (v := ?_) (by exact rfl) (by exact rfl) (fun w1 hk1 => ?_) ?_; rotate_left) | refine N.fin (h := ?_) | refine L.assertY (c := ?_) | refine L.assertN (c := ?_) | refine N.one (i := 0) (h := ?_) | refine N.one (i := 1) (h := ?_) | refine N.one (i := 2) (h := ?_) | refine N.one (i := 3) (h := ?_) | refine N.one (i := 4) (h := ?_) | refine N.one (i := 5) (h := ?_) | refine N.one (i := 6) (h := ?_) | refine N.one (i := 7) (h := ?_) | refine N.one (i := 8) (h := ?_) | refine N.one (i := 9) (h := ?_) | refine N.one (i := 10) (h := ?_) | refine N.one (i := 11) (h := ?_) | (refine QL.step (v := ?_) (by exact rfl) (by exact rfl) ?_ ?_; rotate_left))
        · exact D.ret (vs := [.bool true]) (RV.tmp rfl RV.nil) (fun w' hw => PostW.mkD (hit.aj _) hJ' 0 hw rfl (.inl ⟨rfl, rfl, rfl⟩))
        · exact D.ret (vs := [.bool false]) (RV.tmp rfl RV.nil) (fun w' hw => PostW.mkD (hit.ax _) hJ' 0 hw rfl (.inr ⟨rfl, rfl, rfl⟩))
      · refine L.load1 0 (c := ?_)
        refine L.nil ?_
        refine D.any ?_
        refine N.one (i := 13) (h := ?_)
        refine L.load1 0 (c := ?_)
        refine L.nil ?_
        refine D.any ?_
        refine N.take 15 rfl (Clm.sliceS (lo := f) (hi := to) rfl (.inr ⟨_, _, rfl, rfl⟩) (.inr ⟨_, _, rfl, rfl⟩) hf ht) rfl (by decide +kernel) (by decide +kernel) (by decide +kernel) (fun _ _ _ h => h) rfl ?_
        refine N.take 20 rfl (Clm.build rfl rfl) rfl (by decide +kernel) (by decide +kernel) (by decide +kernel) (fun _ _ _ h => h) rfl ?_
        refine N.one (i := 21) (h := ?_)
        refine L.yieldW hit ⟨kd, s.extract f to, f⟩ hJ hV (by exact rfl) (by exact rfl) (by exact rfl) (by exact rfl) (fun W' hJ' => ?_) (fun W' hJ' => ?_)
        all_goals
          refine L.nil ?_
          refine D.anyR (h := ?_)
          refine N.take 22 rfl (Clm.not rfl) rfl (by decide +kernel) (by decide +kernel) (by decide +kernel) (fun _ _ _ h => h) rfl ?_
          refine N.take 23 rfl (Clm.nilCheck rfl) rfl (by decide +kernel) (by decide +kernel) (by decide +kernel) (fun _ _ _ h => h) rfl ?_
          refine N.take 24 rfl (Clm.fieldAddr rfl) rfl (by decide +kernel) (by decide +kernel) (by decide +kernel) (fun _ _ _ h => h) rfl ?_
          refine N.one (i := 25) (h := ?_)
          refine L.storeV 0 (c := ?_)
          refine L.nil ?_
          refine D.any ?_
          refine N.fin (h := ?_)
          repeat (first | refine C.seq ?_ | refine C.region ?_ | refine L.nil ?_ | refine D.seq ?_ | refine L.move (k := ?_) | refine L.assign (k := ?_) | refine L.cm (c := ?_) | refine L.ar (c := ?_) | refine L.fieldAddr (c := ?_) | refine L.load1 0 (c := ?_) | refine L.load1 1 (c := ?_) | refine L.load1 2 (c := ?_) | refine L.load1 3 (c := ?_) | refine L.load1 4 (c := ?_) | refine L.loadA 0 (c := ?_) | refine L.loadA 1 (c := ?_) | refine L.loadA 2 (c := ?_) | refine L.loadA 3 (c := ?_) | refine L.loadA 4 (c := ?_) | refine L.storeV 0 (c := ?_) | refine L.storeV 1 (c := ?_) | refine L.storeV 2 (c := ?_) | refine L.storeV 3 (c := ?_) | refine L.storeV 4 (c := ?_) | refine L.extract (c := ?_) | refine L.build (c := ?_) | refine L.alloc (c := fun _ => ?_) | refine L.box (c := fun _ => ?_) | refine L.nilCheck (k := ?_) | refine C.yes (h1 := ?_) | refine C.no (h1 := ?_) | refine L.pickT (k := ?_) | refine L.pickF (k := ?_) | refine L.want (k := ?_) | refine L.pass (k := ?_) | refine L.not (c := ?_) | refine L.lenS (c := ?_) | refine L.strNe (c := ?_) | refine L.strEq (c := ?_) | refine L.lenV (c := ?_) | refine C.block ?_ | refine D.blkNormal ?_ | refine C.ret ?_ | refine D.thenRet ?_ | refine D.blkRet ?_ | refine C.exit ?_ | refine D.thenExit ?_ | refine D.blkExit ?_ | refine D.blkOther (h := ?_) | refine C.skip ?_ | refine L.convI (c := ?_) | refine L.makeMap (c := fun _ => ?_) | refine D.any ?_ | refine D.seqR (h := ?_) | refine L.eqA (c := ?_) | refine L.neA (c := ?_) | refine L.funNil (c := ?_) | refine L.eqB (c := ?_) | refine L.neB (c := ?_) | refine L.passU (k := ?_) | refine L.makeFunc (k := ?_) | refine L.buildS (c := fun _ => ?_) | exact D.endsQ | refine QL.fin ?_ | refine C.quiet (h := ?_) | refine C.mixed (h := ?_) | refine QW.fin (h := ?_) | refine QW.load 0 (k := ?_) | refine QW.load 1 (k := ?_) | refine QW.load 2 (k := ?_) | refine QW.load 3 (k := ?_) | refine QW.load 4 (k := ?_) | refine QW.load 5 (k := ?_) | refine QW.loadA 0 (k := ?_) | refine QW.loadA 1 (k := ?_) | refine QW.loadA 2 (k := ?_) | refine QW.loadA 3 (k := ?_) | refine QW.loadA 4 (k := ?_) | refine QW.loadA 5 (k := ?_) | refine QW.store 0 (k := ?_) | refine QW.store 1 (k := ?_) | refine QW.store 2 (k := ?_) | refine QW.store 3 (k := ?_) | refine QW.store 4 (k := ?_) | refine QW.store 5 (k := ?_) | (refine QW.free (v := ?_) (by exact rfl) (by exact rfl) (fun w1 hk1 => ?_) ?_; rotate_left) | refine N.fin (h := ?_) | refine L.assertY (c := ?_) | refine L.assertN (c := ?_) | refine N.one (i := 0) (h := ?_) | refine N.one (i := 1) (h := ?_) | refine N.one (i := 2) (h := ?_) | refine N.one (i := 3) (h := ?_) | refine N.one (i := 4) (h := ?_) | refine N.one (i := 5) (h := ?_) | refine N.one (i := 6) (h := ?_) | refine N.one (i := 7) (h := ?_) | refine N.one (i := 8) (h := ?_) | refine N.one (i := 9) (h := ?_) | refine N.one (i := 10) (h := ?_) | refine N.one (i := 11) (h := ?_) | (refine QL.step (v := ?_) (by exact rfl) (by exact rfl) ?_ ?_; rotate_left))
        · exact D.ret (vs := [.bool true]) (RV.tmp rfl RV.nil) (fun w' hw => PostW.mkD (hit.aj _) hJ' 0 hw rfl (.inl ⟨rfl, rfl, rfl⟩))
        · exact D.ret (vs := [.bool false]) (RV.tmp rfl RV.nil) (fun w' hw => PostW.mkD (hit.ax _) hJ' 0 hw rfl (.inr ⟨rfl, rfl, rfl⟩))
    · refine L.load1 0 (c := ?_)
      refine L.nil ?_
      refine D.any ?_
      refine N.take 15 rfl (Clm.sliceS (lo := f) (hi := to) rfl (.inr ⟨_, _, rfl, rfl⟩) (.inr ⟨_, _, rfl, rfl⟩) hf ht) rfl (by decide +kernel) (by decide +kernel) (by decide +kernel) (fun _ _ _ h => h) rfl ?_
      refine N.any (rs := [4, 19]) (by decide +kernel) (by simp) (List.forall_mem_cons.2 ⟨⟨_, rfl, ?_⟩, List.forall_mem_cons.2 ⟨⟨_, rfl, ?_⟩, fun _ h => absurd h List.not_mem_nil⟩⟩)
      · refine L.load1 0 (c := ?_)
        refine L.nil ?_
        refine D.any ?_
        refine N.one (i := 19) (h := ?_)
        refine L.load1 0 (c := ?_)
        refine L.nil ?_
        refine D.any ?_
        refine N.take 20 rfl (Clm.build rfl rfl) rfl (by decide +kernel) (by decide +kernel) (by decide +kernel) (fun _ _ _ h => h) rfl ?_
        refine N.one (i := 21) (h := ?_)
        refine L.yieldW hit ⟨kd, s.extract f to, f⟩ hJ hV (by exact rfl) (by exact rfl) (by exact rfl) (by exact rfl) (fun W' hJ' => ?_) (fun W' hJ' => ?_)
        all_goals
          refine L.nil ?_
          refine D.anyR (h := ?_)
          refine N.take 22 rfl (Clm.not rfl) rfl (by decide +kernel) (by decide +kernel) (by decide +kernel) (fun _ _ _ h => h) rfl ?_
          refine N.take 23 rfl (Clm.nilCheck rfl) rfl (by decide +kernel) (by decide +kernel) (by decide +kernel) (fun _ _ _ h => h) rfl ?_
          refine N.take 24 rfl (Clm.fieldAddr rfl) rfl (by decide +kernel) (by decide +kernel) (by decide +kernel) (fun _ _ _ h => h) rfl ?_
          refine N.one (i := 25) (h := ?_)
          refine L.storeV 0 (c := ?_)
          refine L.nil ?_
          refine D.any ?_
          refine N.fin (h := ?_)
          repeat (first | refine C.seq ?_ | refine C.region ?_ | refine L.nil ?_ | refine D.seq ?_ | refine L.move (k := ?_) | refine L.assign (k := ?_) | refine L.cm (c := ?_) | refine L.ar (c := ?_) | refine L.fieldAddr (c := ?_) | refine L.load1 0 (c := ?_) | refine L.load1 1 (c := ?_) | refine L.load1 2 (c := ?_) | refine L.load1 3 (c := ?_) | refine L.load1 4 (c := ?_) | refine L.loadA 0 (c := ?_) | refine L.loadA 1 (c := ?_) | refine L.loadA 2 (c := ?_) | refine L.loadA 3 (c := ?_) | refine L.loadA 4 (c := ?_) | refine L.storeV 0 (c := ?_) | refine L.storeV 1 (c := ?_) | refine L.storeV 2 (c := ?_) | refine L.storeV 3 (c := ?_) | refine L.storeV 4 (c := ?_) | refine L.extract (c := ?_) | refine L.build (c := ?_) | refine L.alloc (c := fun _ => ?_) | refine L.box (c := fun _ => ?_) | refine L.nilCheck (k := ?_) | refine C.yes (h1 := ?_) | refine C.no (h1 := ?_) | refine L.pickT (k := ?_) | refine L.pickF (k := ?_) | refine L.want (k := ?_) | refine L.pass (k := ?_) | refine L.not (c := ?_) | refine L.lenS (c := ?_) | refine L.strNe (c := ?_) | refine L.strEq (c := ?_) | refine L.lenV (c := ?_) | refine C.block ?_ | refine D.blkNormal ?_ | refine C.ret ?_ | refine D.thenRet ?_ | refine D.blkRet ?_ | refine C.exit ?_ | refine D.thenExit ?_ | refine D.blkExit ?_ | refine D.blkOther (h := ?_) | refine C.skip ?_ | refine L.convI (c := ?_) | refine L.makeMap (c := fun _ => ?_) | refine D.any ?_ | refine D.seqR (h := ?_) | refine L.eqA (c := ?_) | refine L.neA (c := ?_) | refine L.funNil (c := ?_) | refine L.eqB (c := ?_) | refine L.neB (c := ?_) | refine L.passU (k := ?_) | refine L.makeFunc (k := ?_) | refine L.buildS (c := fun _ => ?_) | exact D.endsQ | refine QL.fin ?_ | refine C.quiet (h := ?_) | refine C.mixed (h := ?_) | refine QW.fin (h := ?_) | refine QW.load 0 (k := ?_) | refine QW.load 1 (k := ?_) | refine QW.load 2 (k := ?_) | refine QW.load 3 (k := ?_) | refine QW.load 4 (k := ?_) | refine QW.load 5 (k := ?_) | refine QW.loadA 0 (k := ?_) | refine QW.loadA 1 (k := ?_) | refine QW.loadA 2 (k := ?_) | refine QW.loadA 3 (k := ?_) | refine QW.loadA 4 (k := ?_) | refine QW.loadA 5 (k := ?_) | refine QW.store 0 (k := ?_) | refine QW.store 1 (k := ?_) | refine QW.store 2 (k := ?_) | refine QW.store 3 (k := ?_) | refine QW.store 4 (k := ?_) | refine QW.store 5 (k := ?_) | (refine QW.free (v := ?_) (by exact rfl) (by exact rfl) (fun w1 hk1 => ?_) ?_; rotate_left) | refine N.fin (h := ?_) | refine L.assertY (c := ?_) | refine L.assertN (c := ?_) | refine N.one (i := 0) (h := ?_) | refine N.one (i := 1) (h := ?_) | refine N.one (i := 2) (h := ?_) | refine N.one (i := 3) (h := ?_) | refine N.one (i := 4) (h := ?_) | refine N.one (i := 5) (h := ?_) | refine N.one (i := 6) (h := ?_) | refine N.one (i := 7) (h := ?_) | refine N.one (i := 8) (h := ?_) | refine N.one (i := 9) (h := ?_) | refine N.one (i := 10) (h := ?_) | refine N.one (i := 11) (h := ?_) | (refine QL.step (v := ?_) (by exact rfl) (by exact rfl) ?_ ?_; rotate_left))
        · exact D.ret (vs := [.bool true]) (RV.tmp rfl RV.nil) (fun w' hw => PostW.mkD (hit.aj _) hJ' 0 hw rfl (.inl ⟨rfl, rfl, rfl⟩))
        · exact D.ret (vs := [.bool false]) (RV.tmp rfl RV.nil) (fun w' hw => PostW.mkD (hit.ax _) hJ' 0 hw rfl (.inr ⟨rfl, rfl, rfl⟩))
      · refine L.load1 0 (c := ?_)
        refine L.nil ?_
        refine D.any ?_
        refine N.take 20 rfl (Clm.build rfl rfl) rfl (by decide +kernel) (by decide +kernel) (by decide +kernel) (fun _ _ _ h => h) rfl ?_
        refine N.one (i := 4) (h := ?_)
        refine L.load1 0 (c := ?_)
        refine L.nil ?_
        refine D.any ?_
        refine N.one (i := 21) (h := ?_)
        refine L.yieldW hit ⟨kd, s.extract f to, f⟩ hJ hV (by exact rfl) (by exact rfl) (by exact rfl) (by exact rfl) (fun W' hJ' => ?_) (fun W' hJ' => ?_)
        all_goals
          refine L.nil ?_
          refine D.anyR (h := ?_)
          refine N.take 22 rfl (Clm.not rfl) rfl (by decide +kernel) (by decide +kernel) (by decide +kernel) (fun _ _ _ h => h) rfl ?_
          refine N.take 23 rfl (Clm.nilCheck rfl) rfl (by decide +kernel) (by decide +kernel) (by decide +kernel) (fun _ _ _ h => h) rfl ?_
          refine N.take 24 rfl (Clm.fieldAddr rfl) rfl (by decide +kernel) (by decide +kernel) (by decide +kernel) (fun _ _ _ h => h) rfl ?_
          refine N.one (i := 25) (h := ?_)
          refine L.storeV 0 (c := ?_)
          refine L.nil ?_
          refine D.any ?_
          refine N.fin (h := ?_)
          repeat (first | refine C.seq ?_ | refine C.region ?_ | refine L.nil ?_ | refine D.seq ?_ | refine L.move (k := ?_) | refine L.assign (k := ?_) | refine L.cm (c := ?_) | refine L.ar (c := ?_) | refine L.fieldAddr (c := ?_) | refine L.load1 0 (c := ?_) | refine L.load1 1 (c := ?_) | refine L.load1 2 (c := ?_) | refine L.load1 3 (c := ?_) | refine L.load1 4 (c := ?_) | refine L.loadA 0 (c := ?_) | refine L.loadA 1 (c := ?_) | refine L.loadA 2 (c := ?_) | refine L.loadA 3 (c := ?_) | refine L.loadA 4 (c := ?_) | refine L.storeV 0 (c := ?_) | refine L.storeV 1 (c := ?_) | refine L.storeV 2 (c := ?_) | refine L.storeV 3 (c := ?_) | refine L.storeV 4 (c := ?_) | refine L.extract (c := ?_) | refine L.build (c := ?_) | refine L.alloc (c := fun _ => ?_) | refine L.box (c := fun _ => ?_) | refine L.nilCheck (k := ?_) | refine C.yes (h1 := ?_) | refine C.no (h1 := ?_) | refine L.pickT (k := ?_) | refine L.pickF (k := ?_) | refine L.want (k := ?_) | refine L.pass (k := ?_) | refine L.not (c := ?_) | refine L.lenS (c := ?_) | refine L.strNe (c := ?_) | refine L.strEq (c := ?_) | refine L.lenV (c := ?_) | refine C.block ?_ | refine D.blkNormal ?_ | refine C.ret ?_ | refine D.thenRet ?_ | refine D.blkRet ?_ | refine C.exit ?_ | refine D.thenExit ?_ | refine D.blkExit ?_ | refine D.blkOther (h := ?_) | refine C.skip ?_ | refine L.convI (c := ?_) | refine L.makeMap (c := fun _ => ?_) | refine D.any ?_ | refine D.seqR (h := ?_) | refine L.eqA (c := ?_) | refine L.neA (c := ?_) | refine L.funNil (c := ?_) | refine L.eqB (c := ?_) | refine L.neB (c := ?_) | refine L.passU (k := ?_) | refine L.makeFunc (k := ?_) | refine L.buildS (c := fun _ => ?_) | exact D.endsQ | refine QL.fin ?_ | refine C.quiet (h := ?_) | refine C.mixed (h := ?_) | refine QW.fin (h := ?_) | refine QW.load 0 (k := ?_) | refine QW.load 1 (k := ?_) | refine QW.load 2 (k := ?_) | refine QW.load 3 (k := ?_) | refine QW.load 4 (k := ?_) | refine QW.load 5 (k := ?_) | refine QW.loadA 0 (k := ?_) | refine QW.loadA 1 (k := ?_) | refine QW.loadA 2 (k := ?_) | refine QW.loadA 3 (k := ?_) | refine QW.loadA 4 (k := ?_) | refine QW.loadA 5 (k := ?_) | refine QW.store 0 (k := ?_) | refine QW.store 1 (k := ?_) | refine QW.store 2 (k := ?_) | refine QW.store 3 (k := ?_) | refine QW.store 4 (k := ?_) | refine QW.store 5 (k := ?_) | (refine QW.free (v := ?_) (by exact rfl) (by exact rfl) (fun w1 hk1 => ?_) ?_; rotate_left) | refine N.fin (h := ?_) | refine L.assertY (c := ?_) | refine L.assertN (c := ?_) | refine N.one (i := 0) (h := ?_) | refine N.one (i := 1) (h := ?_) | refine N.one (i := 2) (h := ?_) | refine N.one (i := 3) (h := ?_) | refine N.one (i := 4) (h := ?_) | refine N.one (i := 5) (h := ?_) | refine N.one (i := 6) (h := ?_) | refine N.one (i := 7) (h := ?_) | refine N.one (i := 8) (h := ?_) | refine N.one (i := 9) (h := ?_) | refine N.one (i := 10) (h := ?_) | refine N.one (i := 11) (h := ?_) | (refine QL.step (v := ?_) (by exact rfl) (by exact rfl) ?_ ?_; rotate_left))
        · exact D.ret (vs := [.bool true]) (RV.tmp rfl RV.nil) (fun w' hw => PostW.mkD (hit.aj _) hJ' 0 hw rfl (.inl ⟨rfl, rfl, rfl⟩))
        · exact D.ret (vs := [.bool false]) (RV.tmp rfl RV.nil) (fun w' hw => PostW.mkD (hit.ax _) hJ' 0 hw rfl (.inr ⟨rfl, rfl, rfl⟩))
    · refine L.load1 0 (c := ?_)
      refine L.nil ?_
      refine D.any ?_
      refine N.any (rs := [4, 13]) (by decide +kernel) (by simp) (List.forall_mem_cons.2 ⟨⟨_, rfl, ?_⟩, List.forall_mem_cons.2 ⟨⟨_, rfl, ?_⟩, fun _ h => absurd h List.not_mem_nil⟩⟩)
      · refine L.load1 0 (c := ?_)
        refine L.nil ?_
        refine D.any ?_
        refine N.one (i := 13) (h := ?_)
        refine L.load1 0 (c := ?_)
        refine L.nil ?_
        refine D.any ?_
        refine N.take 15 rfl (Clm.sliceS (lo := f) (hi := to) rfl (.inr ⟨_, _, rfl, rfl⟩) (.inr ⟨_, _, rfl, rfl⟩) hf ht) rfl (by decide +kernel) (by decide +kernel) (by decide +kernel) (fun _ _ _ h => h) rfl ?_
        refine N.take 20 rfl (Clm.build rfl rfl) rfl (by decide +kernel) (by decide +kernel) (by decide +kernel) (fun _ _ _ h => h) rfl ?_
        refine N.one (i := 21) (h := ?_)
        refine L.yieldW hit ⟨kd, s.extract f to, f⟩ hJ hV (by exact rfl) (by exact rfl) (by exact rfl) (by exact rfl) (fun W' hJ' => ?_) (fun W' hJ' => ?_)
        all_goals
          refine L.nil ?_
          refine D.anyR (h := ?_)
          refine N.take 22 rfl (Clm.not rfl) rfl (by decide +kernel) (by decide +kernel) (by decide +kernel) (fun _ _ _ h => h) rfl ?_
          refine N.take 23 rfl (Clm.nilCheck rfl) rfl (by decide +kernel) (by decide +kernel) (by decide +kernel) (fun _ _ _ h => h) rfl ?_
          refine N.take 24 rfl (Clm.fieldAddr rfl) rfl (by decide +kernel) (by decide +kernel) (by decide +kernel) (fun _ _ _ h => h) rfl ?_
          refine N.one (i := 25) (h := ?_)
          refine L.storeV 0 (c := ?_)
          refine L.nil ?_
          refine D.any ?_
          refine N.fin (h := ?_)
          repeat (first | refine C.seq ?_ | refine C.region ?_ | refine L.nil ?_ | refine D.seq ?_ | refine L.move (k := ?_) | refine L.assign (k := ?_) | refine L.cm (c := ?_) | refine L.ar (c := ?_) | refine L.fieldAddr (c := ?_) | refine L.load1 0 (c := ?_) | refine L.load1 1 (c := ?_) | refine L.load1 2 (c := ?_) | refine L.load1 3 (c := ?_) | refine L.load1 4 (c := ?_) | refine L.loadA 0 (c := ?_) | refine L.loadA 1 (c := ?_) | refine L.loadA 2 (c := ?_) | refine L.loadA 3 (c := ?_) | refine L.loadA 4 (c := ?_) | refine L.storeV 0 (c := ?_) | refine L.storeV 1 (c := ?_) | refine L.storeV 2 (c := ?_) | refine L.storeV 3 (c := ?_) | refine L.storeV 4 (c := ?_) | refine L.extract (c := ?_) | refine L.build (c := ?_) | refine L.alloc (c := fun _ => ?_) | refine L.box (c := fun _ => ?_) | refine L.nilCheck (k := ?_) | refine C.yes (h1 := ?_) | refine C.no (h1 := ?_) | refine L.pickT (k := ?_) | refine L.pickF (k := ?_) | refine L.want (k := ?_) | refine L.pass (k := ?_) | refine L.not (c := ?_) | refine L.lenS (c := ?_) | refine L.strNe (c := ?_) | refine L.strEq (c := ?_) | refine L.lenV (c := ?_) | refine C.block ?_ | refine D.blkNormal ?_ | refine C.ret ?_ | refine D.thenRet ?_ | refine D.blkRet ?_ | refine C.exit ?_ | refine D.thenExit ?_ | refine D.blkExit ?_ | refine D.blkOther (h := ?_) | refine C.skip ?_ | refine L.convI (c := ?_) | refine L.makeMap (c := fun _ => ?_) | refine D.any ?_ | refine D.seqR (h := ?_) | refine L.eqA (c := ?_) | refine L.neA (c := ?_) | refine L.funNil (c := ?_) | refine L.eqB (c := ?_) | refine L.neB (c := ?_) | refine L.passU (k := ?_) | refine L.makeFunc (k := ?_) | refine L.buildS (c := fun _ => ?_) | exact D.endsQ | refine QL.fin ?_ | refine C.quiet (h := ?_) | refine C.mixed (h := ?_) | refine QW.fin (h := ?_) | refine QW.load 0 (k := ?_) | refine QW.load 1 (k := ?_) | refine QW.load 2 (k := ?_) | refine QW.load 3 (k := ?_) | refine QW.load 4 (k := ?_) | refine QW.load 5 (k := ?_) | refine QW.loadA 0 (k := ?_) | refine QW.loadA 1 (k := ?_) | refine QW.loadA 2 (k := ?_) | refine QW.loadA 3 (k := ?_) | refine QW.loadA 4 (k := ?_) | refine QW.loadA 5 (k := ?_) | refine QW.store 0 (k := ?_) | refine QW.store 1 (k := ?_) | refine QW.store 2 (k := ?_) | refine QW.store 3 (k := ?_) | refine QW.store 4 (k := ?_) | refine QW.store 5 (k := ?_) | (refine QW.free (v := ?_) (by exact rfl) (by exact rfl) (fun w1 hk1 => ?_) ?_; rotate_left) | refine N.fin (h := ?_) | refine L.assertY (c := ?_) | refine L.assertN (c := ?_) | refine N.one (i := 0) (h := ?_) | refine N.one (i := 1) (h := ?_) | refine N.one (i := 2) (h := ?_) | refine N.one (i := 3) (h := ?_) | refine N.one (i := 4) (h := ?_) | refine N.one (i := 5) (h := ?_) | refine N.one (i := 6) (h := ?_) | refine N.one (i := 7) (h := ?_) | refine N.one (i := 8) (h := ?_) | refine N.one (i := 9) (h := ?_) | refine N.one (i := 10) (h := ?_) | refine N.one (i := 11) (h := ?_) | (refine QL.step (v := ?_) (by exact rfl) (by exact rfl) ?_ ?_; rotate_left))
        · exact D.ret (vs := [.bool true]) (RV.tmp rfl RV.nil) (fun w' hw => PostW.mkD (hit.aj _) hJ' 0 hw rfl (.inl ⟨rfl, rfl, rfl⟩))
        · exact D.ret (vs := [.bool false]) (RV.tmp rfl RV.nil) (fun w' hw => PostW.mkD (hit.ax _) hJ' 0 hw rfl (.inr ⟨rfl, rfl, rfl⟩))
      · refine L.load1 0 (c := ?_)
        refine L.nil ?_
        refine D.any ?_
        refine N.take 15 rfl (Clm.sliceS (lo := f) (hi := to) rfl (.inr ⟨_, _, rfl, rfl⟩) (.inr ⟨_, _, rfl, rfl⟩) hf ht) rfl (by decide +kernel) (by decide +kernel) (by decide +kernel) (fun _ _ _ h => h) rfl ?_
        refine N.take 20 rfl (Clm.build rfl rfl) rfl (by decide +kernel) (by decide +kernel) (by decide +kernel) (fun _ _ _ h => h) rfl ?_
        refine N.one (i := 4) (h := ?_)
        refine L.load1 0 (c := ?_)
        refine L.nil ?_
        refine D.any ?_
        refine N.one (i := 21) (h := ?_)
        refine L.yieldW hit ⟨kd, s.extract f to, f⟩ hJ hV (by exact rfl) (by exact rfl) (by exact rfl) (by exact rfl) (fun W' hJ' => ?_) (fun W' hJ' => ?_)
        all_goals
          refine L.nil ?_
          refine D.anyR (h := ?_)
          refine N.take 22 rfl (Clm.not rfl) rfl (by decide +kernel) (by decide +kernel) (by decide +kernel) (fun _ _ _ h => h) rfl ?_
          refine N.take 23 rfl (Clm.nilCheck rfl) rfl (by decide +kernel) (by decide +kernel) (by decide +kernel) (fun _ _ _ h => h) rfl ?_
          refine N.take 24 rfl (Clm.fieldAddr rfl) rfl (by decide +kernel) (by decide +kernel) (by decide +kernel) (fun _ _ _ h => h) rfl ?_
          refine N.one (i := 25) (h := ?_)
          refine L.storeV 0 (c := ?_)
          refine L.nil ?_
          refine D.any ?_
          refine N.fin (h := ?_)
          repeat (first | refine C.seq ?_ | refine C.region ?_ | refine L.nil ?_ | refine D.seq ?_ | refine L.move (k := ?_) | refine L.assign (k := ?_) | refine L.cm (c := ?_) | refine L.ar (c := ?_) | refine L.fieldAddr (c := ?_) | refine L.load1 0 (c := ?_) | refine L.load1 1 (c := ?_) | refine L.load1 2 (c := ?_) | refine L.load1 3 (c := ?_) | refine L.load1 4 (c := ?_) | refine L.loadA 0 (c := ?_) | refine L.loadA 1 (c := ?_) | refine L.loadA 2 (c := ?_) | refine L.loadA 3 (c := ?_) | refine L.loadA 4 (c := ?_) | refine L.storeV 0 (c := ?_) | refine L.storeV 1 (c := ?_) | refine L.storeV 2 (c := ?_) | refine L.storeV 3 (c := ?_) | refine L.storeV 4 (c := ?_) | refine L.extract (c := ?_) | refine L.build (c := ?_) | refine L.alloc (c := fun _ => ?_) | refine L.box (c := fun _ => ?_) | refine L.nilCheck (k := ?_) | refine C.yes (h1 := ?_) | refine C.no (h1 := ?_) | refine L.pickT (k := ?_) | refine L.pickF (k := ?_) | refine L.want (k := ?_) | refine L.pass (k := ?_) | refine L.not (c := ?_) | refine L.lenS (c := ?_) | refine L.strNe (c := ?_) | refine L.strEq (c := ?_) | refine L.lenV (c := ?_) | refine C.block ?_ | refine D.blkNormal ?_ | refine C.ret ?_ | refine D.thenRet ?_ | refine D.blkRet ?_ | refine C.exit ?_ | refine D.thenExit ?_ | refine D.blkExit ?_ | refine D.blkOther (h := ?_) | refine C.skip ?_ | refine L.convI (c := ?_) | refine L.makeMap (c := fun _ => ?_) | refine D.any ?_ | refine D.seqR (h := ?_) | refine L.eqA (c := ?_) | refine L.neA (c := ?_) | refine L.funNil (c := ?_) | refine L.eqB (c := ?_) | refine L.neB (c := ?_) | refine L.passU (k := ?_) | refine L.makeFunc (k := ?_) | refine L.buildS (c := fun _ => ?_) | exact D.endsQ | refine QL.fin ?_ | refine C.quiet (h := ?_) | refine C.mixed (h := ?_) | refine QW.fin (h := ?_) | refine QW.load 0 (k := ?_) | refine QW.load 1 (k := ?_) | refine QW.load 2 (k := ?_) | refine QW.load 3 (k := ?_) | refine QW.load 4 (k := ?_) | refine QW.load 5 (k := ?_) | refine QW.loadA 0 (k := ?_) | refine QW.loadA 1 (k := ?_) | refine QW.loadA 2 (k := ?_) | refine QW.loadA 3 (k := ?_) | refine QW.loadA 4 (k := ?_) | refine QW.loadA 5 (k := ?_) | refine QW.store 0 (k := ?_) | refine QW.store 1 (k := ?_) | refine QW.store 2 (k := ?_) | refine QW.store 3 (k := ?_) | refine QW.store 4 (k := ?_) | refine QW.store 5 (k := ?_) | (refine QW.free (v := ?_) (by exact rfl) (by exact rfl) (fun w1 hk1 => ?_) ?_; rotate_left) | refine N.fin (h := ?_) | refine L.assertY (c := ?_) | refine L.assertN (c := ?_) | refine N.one (i := 0) (h := ?_) | refine N.one (i := 1) (h := ?_) | refine N.one (i := 2) (h := ?_) | refine N.one (i := 3) (h := ?_) | refine N.one (i := 4) (h := ?_) | refine N.one (i := 5) (h := ?_) | refine N.one (i := 6) (h := ?_) | refine N.one (i := 7) (h := ?_) | refine N.one (i := 8) (h := ?_) | refine N.one (i := 9) (h := ?_) | refine N.one (i := 10) (h := ?_) | refine N.one (i := 11) (h := ?_) | (refine QL.step (v := ?_) (by exact rfl) (by exact rfl) ?_ ?_; rotate_left))
        · exact D.ret (vs := [.bool true]) (RV.tmp rfl RV.nil) (fun w' hw => PostW.mkD (hit.aj _) hJ' 0 hw rfl (.inl ⟨rfl, rfl, rfl⟩))
        · exact D.ret (vs := [.bool false]) (RV.tmp rfl RV.nil) (fun w' hw => PostW.mkD (hit.ax _) hJ' 0 hw rfl (.inr ⟨rfl, rfl, rfl⟩))
  · refine L.load1 0 (c := ?_)
    refine L.nil ?_
    refine D.any ?_
    refine N.any (rs := [4, 9, 19]) (by decide +kernel) (by simp) (List.forall_mem_cons.2 ⟨⟨_, rfl, ?_⟩, List.forall_mem_cons.2 ⟨⟨_, rfl, ?_⟩, List.forall_mem_cons.2 ⟨⟨_, rfl, ?_⟩, fun _ h => absurd h List.not_mem_nil⟩⟩⟩)
    · refine L.load1 0 (c := ?_)
      refine L.nil ?_
      refine D.any ?_
      refine N.any (rs := [9, 19]) (by decide +kernel) (by simp) (List.forall_mem_cons.2 ⟨⟨_, rfl, ?_⟩, List.forall_mem_cons.2 ⟨⟨_, rfl, ?_⟩, fun _ h => absurd h List.not_mem_nil⟩⟩)
      · refine L.load1 0 (c := ?_)
        refine L.nil ?_
        refine D.any ?_
        refine N.take 15 rfl (Clm.sliceS (lo := f) (hi := to) rfl (.inr ⟨_, _, rfl, rfl⟩) (.inr ⟨_, _, rfl, rfl⟩) hf ht) rfl (by decide +kernel) (by decide +kernel) (by decide +kernel) (fun _ _ _ h => h) rfl ?_
        refine N.one (i := 19) (h := ?_)
        refine L.load1 0 (c := ?_)
        refine L.nil ?_
        refine D.any ?_
        refine N.take 20 rfl (Clm.build rfl rfl) rfl (by decide +kernel) (by decide +kernel) (by decide +kernel) (fun _ _ _ h => h) rfl ?_
        refine N.one (i := 21) (h := ?_)
        refine L.yieldW hit ⟨kd, s.extract f to, f⟩ hJ hV (by exact rfl) (by exact rfl) (by exact rfl) (by exact rfl) (fun W' hJ' => ?_) (fun W' hJ' => ?_)
        all_goals
          refine L.nil ?_
          refine D.anyR (h := ?_)
          refine N.take 22 rfl (Clm.not rfl) rfl (by decide +kernel) (by decide +kernel) (by decide +kernel) (fun _ _ _ h => h) rfl ?_
          refine N.take 23 rfl (Clm.nilCheck rfl) rfl (by decide +kernel) (by decide +kernel) (by decide +kernel) (fun _ _ _ h => h) rfl ?_
          refine N.take 24 rfl (Clm.fieldAddr rfl) rfl (by decide +kernel) (by decide +kernel) (by decide +kernel) (fun _ _ _ h => h) rfl ?_
          refine N.one (i := 25) (h := ?_)
          refine L.storeV 0 (c := ?_)
          refine L.nil ?_
          refine D.any ?_
          refine N.fin (h := ?_)
          repeat (first | refine C.seq ?_ | refine C.region ?_ | refine L.nil ?_ | refine D.seq ?_ | refine L.move (k := ?_) | refine L.assign (k := ?_) | refine L.cm (c := ?_) | refine L.ar (c := ?_) | refine L.fieldAddr (c := ?_) | refine L.load1 0 (c := ?_) | refine L.load1 1 (c := ?_) | refine L.load1 2 (c := ?_) | refine L.load1 3 (c := ?_) | refine L.load1 4 (c := ?_) | refine L.loadA 0 (c := ?_) | refine L.loadA 1 (c := ?_) | refine L.loadA 2 (c := ?_) | refine L.loadA 3 (c := ?_) | refine L.loadA 4 (c := ?_) | refine L.storeV 0 (c := ?_) | refine L.storeV 1 (c := ?_) | refine L.storeV 2 (c := ?_) | refine L.storeV 3 (c := ?_) | refine L.storeV 4 (c := ?_) | refine L.extract (c := ?_) | refine L.build (c := ?_) | refine L.alloc (c := fun _ => ?_) | refine L.box (c := fun _ => ?_) | refine L.nilCheck (k := ?_) | refine C.yes (h1 := ?_) | refine C.no (h1 := ?_) | refine L.pickT (k := ?_) | refine L.pickF (k := ?_) | refine L.want (k := ?_) | refine L.pass (k := ?_) | refine L.not (c := ?_) | refine L.lenS (c := ?_) | refine L.strNe (c := ?_) | refine L.strEq (c := ?_) | refine L.lenV (c := ?_) | refine C.block ?_ | refine D.blkNormal ?_ | refine C.ret ?_ | refine D.thenRet ?_ | refine D.blkRet ?_ | refine C.exit ?_ | refine D.thenExit ?_ | refine D.blkExit ?_ | refine D.blkOther (h := ?_) | refine C.skip ?_ | refine L.convI (c := ?_) | refine L.makeMap (c := fun _ => ?_) | refine D.any ?_ | refine D.seqR (h := ?_) | refine L.eqA (c := ?_) | refine L.neA (c := ?_) | refine L.funNil (c := ?_) | refine L.eqB (c := ?_) | refine L.neB (c := ?_) | refine L.passU (k := ?_) | refine L.makeFunc (k := ?_) | refine L.buildS (c := fun _ => ?_) | exact D.endsQ | refine QL.fin ?_ | refine C.quiet (h := ?_) | refine C.mixed (h := ?_) | refine QW.fin (h := ?_) | refine QW.load 0 (k := ?_) | refine QW.load 1 (k := ?_) | refine QW.load 2 (k := ?_) | refine QW.load 3 (k := ?_) | refine QW.load 4 (k := ?_) | refine QW.load 5 (k := ?_) | refine QW.loadA 0 (k := ?_) | refine QW.loadA 1 (k := ?_) | refine QW.loadA 2 (k := ?_) | refine QW.loadA 3 (k := ?_) | refine QW.loadA 4 (k := ?_) | refine QW.loadA 5 (k := ?_) | refine QW.store 0 (k := ?_) | refine QW.store 1 (k := ?_) | refine QW.store 2 (k := ?_) | refine QW.store 3 (k := ?_) | refine QW.store 4 (k := ?_) | refine QW.store 5 (k := ?_) | (refine QW.free (v := ?_) (by exact rfl) (by exact rfl) (fun w1 hk1 => ?_) ?_; rotate_left) | refine N.fin (h := ?_) | refine L.assertY (c := ?_) | refine L.assertN (c := ?_) | refine N.one (i := 0) (h := ?_) | refine N.one (i := 1) (h := ?_) | refine N.one (i := 2) (h := ?_) | refine N.one (i := 3) (h := ?_) | refine N.one (i := 4) (h := ?_) | refine N.one (i := 5) (h := ?_) | refine N.one (i := 6) (h := ?_) | refine N.one (i := 7) (h := ?_) | refine N.one (i := 8) (h := ?_) | refine N.one (i := 9) (h := ?_) | refine N.one (i := 10) (h := ?_) | refine N.one (i := 11) (h := ?_) | (refine QL.step (v := ?_) (by exact rfl) (by exact rfl) ?_ ?_; rotate_left))
        · exact D.ret (vs := [.bool true]) (RV.tmp rfl RV.nil) (fun w' hw => PostW.mkD (hit.aj _) hJ' 0 hw rfl (.inl ⟨rfl, rfl, rfl⟩))
        · exact D.ret (vs := [.bool false]) (RV.tmp rfl RV.nil) (fun w' hw => PostW.mkD (hit.ax _) hJ' 0 hw rfl (.inr ⟨rfl, rfl, rfl⟩))
      · refine L.load1 0 (c := ?_)
        refine L.nil ?_
        refine D.any ?_
        refine N.one (i := 9) (h := ?_)
        refine L.load1 0 (c := ?_)
        refine L.nil ?_
        refine D.any ?_
        refine N.take 15 rfl (Clm.sliceS (lo := f) (hi := to) rfl (.inr ⟨_, _, rfl, rfl⟩) (.inr ⟨_, _, rfl, rfl⟩) hf ht) rfl (by decide +kernel) (by decide +kernel) (by decide +kernel) (fun _ _ _ h => h) rfl ?_
        refine N.take 20 rfl (Clm.build rfl rfl) rfl (by decide +kernel) (by decide +kernel) (by decide +kernel) (fun _ _ _ h => h) rfl ?_
        refine N.one (i := 21) (h := ?_)
        refine L.yieldW hit ⟨kd, s.extract f to, f⟩ hJ hV (by exact rfl) (by exact rfl) (by exact rfl) (by exact rfl) (fun W' hJ' => ?_) (fun W' hJ' => ?_)
        all_goals
          refine L.nil ?_
          refine D.anyR (h := ?_)
          refine N.take 22 rfl (Clm.not rfl) rfl (by decide +kernel) (by decide +kernel) (by decide +kernel) (fun _ _ _ h => h) rfl ?_
          refine N.take 23 rfl (Clm.nilCheck rfl) rfl (by decide +kernel) (by decide +kernel) (by decide +kernel) (fun _ _ _ h => h) rfl ?_
          refine N.take 24 rfl (Clm.fieldAddr rfl) rfl (by decide +kernel) (by decide +kernel) (by decide +kernel) (fun _ _ _ h => h) rfl ?_
          refine N.one (i := 25) (h := ?_)
          refine L.storeV 0 (c := ?_)
          refine L.nil ?_
          refine D.any ?_
          refine N.fin (h := ?_)
          repeat (first | refine C.seq ?_ | refine C.region ?_ | refine L.nil ?_ | refine D.seq ?_ | refine L.move (k := ?_) | refine L.assign (k := ?_) | refine L.cm (c := ?_) | refine L.ar (c := ?_) | refine L.fieldAddr (c := ?_) | refine L.load1 0 (c := ?_) | refine L.load1 1 (c := ?_) | refine L.load1 2 (c := ?_) | refine L.load1 3 (c := ?_) | refine L.load1 4 (c := ?_) | refine L.loadA 0 (c := ?_) | refine L.loadA 1 (c := ?_) | refine L.loadA 2 (c := ?_) | refine L.loadA 3 (c := ?_) | refine L.loadA 4 (c := ?_) | refine L.storeV 0 (c := ?_) | refine L.storeV 1 (c := ?_) | refine L.storeV 2 (c := ?_) | refine L.storeV 3 (c := ?_) | refine L.storeV 4 (c := ?_) | refine L.extract (c := ?_) | refine L.build (c := ?_) | refine L.alloc (c := fun _ => ?_) | refine L.box (c := fun _ => ?_) | refine L.nilCheck (k := ?_) | refine C.yes (h1 := ?_) | refine C.no (h1 := ?_) | refine L.pickT (k := ?_) | refine L.pickF (k := ?_) | refine L.want (k := ?_) | refine L.pass (k := ?_) | refine L.not (c := ?_) | refine L.lenS (c := ?_) | refine L.strNe (c := ?_) | refine L.strEq (c := ?_) | refine L.lenV (c := ?_) | refine C.block ?_ | refine D.blkNormal ?_ | refine C.ret ?_ | refine D.thenRet ?_ | refine D.blkRet ?_ | refine C.exit ?_ | refine D.thenExit ?_ | refine D.blkExit ?_ | refine D.blkOther (h := ?_) | refine C.skip ?_ | refine L.convI (c := ?_) | refine L.makeMap (c := fun _ => ?_) | refine D.any ?_ | refine D.seqR (h := ?_) | refine L.eqA (c := ?_) | refine L.neA (c := ?_) | refine L.funNil (c := ?_) | refine L.eqB (c := ?_) | refine L.neB (c := ?_) | refine L.passU (k := ?_) | refine L.makeFunc (k := ?_) | refine L.buildS (c := fun _ => ?_) | exact D.endsQ | refine QL.fin ?_ | refine C.quiet (h := ?_) | refine C.mixed (h := ?_) | refine QW.fin (h := ?_) | refine QW.load 0 (k := ?_) | refine QW.load 1 (k := ?_) | refine QW.load 2 (k := ?_) | refine QW.load 3 (k := ?_) | refine QW.load 4 (k := ?_) | refine QW.load 5 (k := ?_) | refine QW.loadA 0 (k := ?_) | refine QW.loadA 1 (k := ?_) | refine QW.loadA 2 (k := ?_) | refine QW.loadA 3 (k := ?_) | refine QW.loadA 4 (k := ?_) | refine QW.loadA 5 (k := ?_) | refine QW.store 0 (k := ?_) | refine QW.store 1 (k := ?_) | refine QW.store 2 (k := ?_) | refine QW.store 3 (k := ?_) | refine QW.store 4 (k := ?_) | refine QW.store 5 (k := ?_) | (refine QW.free (v := ?_) (by exact rfl) (by exact rfl) (fun w1 hk1 => ?_) ?_; rotate_left) | refine N.fin (h := ?_) | refine L.assertY (c := ?_) | refine L.assertN (c := ?_) | refine N.one (i := 0) (h := ?_) | refine N.one (i := 1) (h := ?_) | refine N.one (i := 2) (h := ?_) | refine N.one (i := 3) (h := ?_) | refine N.one (i := 4) (h := ?_) | refine N.one (i := 5) (h := ?_) | refine N.one (i := 6) (h := ?_) | refine N.one (i := 7) (h := ?_) | refine N.one (i := 8) (h := ?_) | refine N.one (i := 9) (h := ?_) | refine N.one (i := 10) (h := ?_) | refine N.one (i := 11) (h := ?_) | (refine QL.step (v := ?_) (by exact rfl) (by exact rfl) ?_ ?_; rotate_left))
        · exact D.ret (vs := [.bool true]) (RV.tmp rfl RV.nil) (fun w' hw => PostW.mkD (hit.aj _) hJ' 0 hw rfl (.inl ⟨rfl, rfl, rfl⟩))
        · exact D.ret (vs := [.bool false]) (RV.tmp rfl RV.nil) (fun w' hw => PostW.mkD (hit.ax _) hJ' 0 hw rfl (.inr ⟨rfl, rfl, rfl⟩))
    · refine L.load1 0 (c := ?_)
      refine L.nil ?_
      refine D.any ?_
      refine N.take 15 rfl (Clm.sliceS (lo := f) (hi := to) rfl (.inr ⟨_, _, rfl, rfl⟩) (.inr ⟨_, _, rfl, rfl⟩) hf ht) rfl (by decide +kernel) (by decide +kernel) (by decide +kernel) (fun _ _ _ h => h) rfl ?_
      refine N.any (rs := [4, 19]) (by decide +kernel) (by simp) (List.forall_mem_cons.2 ⟨⟨_, rfl, ?_⟩, List.forall_mem_cons.2 ⟨⟨_, rfl, ?_⟩, fun _ h => absurd h List.not_mem_nil⟩⟩)
      · refine L.load1 0 (c := ?_)
        refine L.nil ?_
        refine D.any ?_
        refine N.one (i := 19) (h := ?_)
        refine L.load1 0 (c := ?_)
        refine L.nil ?_
        refine D.any ?_
        refine N.take 20 rfl (Clm.build rfl rfl) rfl (by decide +kernel) (by decide +kernel) (by decide +kernel) (fun _ _ _ h => h) rfl ?_
        refine N.one (i := 21) (h := ?_)
        refine L.yieldW hit ⟨kd, s.extract f to, f⟩ hJ hV (by exact rfl) (by exact rfl) (by exact rfl) (by exact rfl) (fun W' hJ' => ?_) (fun W' hJ' => ?_)
        all_goals
          refine L.nil ?_
          refine D.anyR (h := ?_)
          refine N.take 22 rfl (Clm.not rfl) rfl (by decide +kernel) (by decide +kernel) (by decide +kernel) (fun _ _ _ h => h) rfl ?_
          refine N.take 23 rfl (Clm.nilCheck rfl) rfl (by decide +kernel) (by decide +kernel) (by decide +kernel) (fun _ _ _ h => h) rfl ?_
          refine N.take 24 rfl (Clm.fieldAddr rfl) rfl (by decide +kernel) (by decide +kernel) (by decide +kernel) (fun _ _ _ h => h) rfl ?_
          refine N.one (i := 25) (h := ?_)
          refine L.storeV 0 (c := ?_)
          refine L.nil ?_
          refine D.any ?_
          refine N.fin (h := ?_)
          repeat (first | refine C.seq ?_ | refine C.region ?_ | refine L.nil ?_ | refine D.seq ?_ | refine L.move (k := ?_) | refine L.assign (k := ?_) | refine L.cm (c := ?_) | refine L.ar (c := ?_) | refine L.fieldAddr (c := ?_) | refine L.load1 0 (c := ?_) | refine L.load1 1 (c := ?_) | refine L.load1 2 (c := ?_) | refine L.load1 3 (c := ?_) | refine L.load1 4 (c := ?_) | refine L.loadA 0 (c := ?_) | refine L.loadA 1 (c := ?_) | refine L.loadA 2 (c := ?_) | refine L.loadA 3 (c := ?_) | refine L.loadA 4 (c := ?_) | refine L.storeV 0 (c := ?_) | refine L.storeV 1 (c := ?_) | refine L.storeV 2 (c := ?_) | refine L.storeV 3 (c := ?_) | refine L.storeV 4 (c := ?_) | refine L.extract (c := ?_) | refine L.build (c := ?_) | refine L.alloc (c := fun _ => ?_) | refine L.box (c := fun _ => ?_) | refine L.nilCheck (k := ?_) | refine C.yes (h1 := ?_) | refine C.no (h1 := ?_) | refine L.pickT (k := ?_) | refine L.pickF (k := ?_) | refine L.want (k := ?_) | refine L.pass (k := ?_) | refine L.not (c := ?_) | refine L.lenS (c := ?_) | refine L.strNe (c := ?_) | refine L.strEq (c := ?_) | refine L.lenV (c := ?_) | refine C.block ?_ | refine D.blkNormal ?_ | refine C.ret ?_ | refine D.thenRet ?_ | refine D.blkRet ?_ | refine C.exit ?_ | refine D.thenExit ?_ | refine D.blkExit ?_ | refine D.blkOther (h := ?_) | refine C.skip ?_ | refine L.convI (c := ?_) | refine L.makeMap (c := fun _ => ?_) | refine D.any ?_ | refine D.seqR (h := ?_) | refine L.eqA (c := ?_) | refine L.neA (c := ?_) | refine L.funNil (c := ?_) | refine L.eqB (c := ?_) | refine L.neB (c := ?_) | refine L.passU (k := ?_) | refine L.makeFunc (k := ?_) | refine L.buildS (c := fun _ => ?_) | exact D.endsQ | refine QL.fin ?_ | refine C.quiet (h := ?_) | refine C.mixed (h := ?_) | refine QW.fin (h := ?_) | refine QW.load 0 (k := ?_) | refine QW.load 1 (k := ?_) | refine QW.load 2 (k := ?_) | refine QW.load 3 (k := ?_) | refine QW.load 4 (k := ?_) | refine QW.load 5 (k := ?_) | refine QW.loadA 0 (k := ?_) | refine QW.loadA 1 (k := ?_) | refine QW.loadA 2 (k := ?_) | refine QW.loadA 3 (k := ?_) | refine QW.loadA 4 (k := ?_) | refine QW.loadA 5 (k := ?_) | refine QW.store 0 (k := ?_) | refine QW.store 1 (k := ?_) | refine QW.store 2 (k := ?_) | refine QW.store 3 (k := ?_) | refine QW.store 4 (k := ?_) | refine QW.store 5 (k := ?_) | (refine QW.free (v := ?_) (by exact rfl) (by exact rfl) (fun w1 hk1 => ?_) ?_; rotate_left) | refine N.fin (h := ?_) | refine L.assertY (c := ?_) | refine L.assertN (c := ?_) | refine N.one (i := 0) (h := ?_) | refine N.one (i := 1) (h := ?_) | refine N.one (i := 2) (h := ?_) | refine N.one (i := 3) (h := ?_) | refine N.one (i := 4) (h := ?_) | refine N.one (i := 5) (h := ?_) | refine N.one (i := 6) (h := ?_) | refine N.one (i := 7) (h := ?_) | refine N.one (i := 8) (h := ?_) | refine N.one (i := 9) (h := ?_) | refine N.one (i := 10) (h := ?_) | refine N.one (i := 11) (h := ?_) | (refine QL.step (v := ?_) (by exact rfl) (by exact rfl) ?_ ?_; rotate_left))
        · exact D.ret (vs := [.bool true]) (RV.tmp rfl RV.nil) (fun w' hw => PostW.mkD (hit.aj _) hJ' 0 hw rfl (.inl ⟨rfl, rfl, rfl⟩))
        · exact D.ret (vs := [.bool false]) (RV.tmp rfl RV.nil) (fun w' hw => PostW.mkD (hit.ax _) hJ' 0 hw rfl (.inr ⟨rfl, rfl, rfl⟩))
      · refine L.load1 0 (c := ?_)
        refine L.nil ?_
        refine D.any ?_
        refine N.take 20 rfl (Clm.build rfl rfl) rfl (by decide +kernel) (by decide +kernel) (by decide +kernel) (fun _ _ _ h => h) rfl ?_
        refine N.one (i := 4) (h := ?_)
        refine L.load1 0 (c := ?_)
        refine L.nil ?_
        refine D.any ?_
        refine N.one (i := 21) (h := ?_)
        refine L.yieldW hit ⟨kd, s.extract f to, f⟩ hJ hV (by exact rfl) (by exact rfl) (by exact rfl) (by exact rfl) (fun W' hJ' => ?_) (fun W' hJ' => ?_)
        all_goals
          refine L.nil ?_
          refine D.anyR (h := ?_)
          refine N.take 22 rfl (Clm.not rfl) rfl (by decide +kernel) (by decide +kernel) (by decide +kernel) (fun _ _ _ h => h) rfl ?_
          refine N.take 23 rfl (Clm.nilCheck rfl) rfl (by decide +kernel) (by decide +kernel) (by decide +kernel) (fun _ _ _ h => h) rfl ?_
          refine N.take 24 rfl (Clm.fieldAddr rfl) rfl (by decide +kernel) (by decide +kernel) (by decide +kernel) (fun _ _ _ h => h) rfl ?_
          refine N.one (i := 25) (h := ?_)
          refine L.storeV 0 (c := ?_)
          refine L.nil ?_
          refine D.any ?_
          refine N.fin (h := ?_)
          repeat (first | refine C.seq ?_ | refine C.region ?_ | refine L.nil ?_ | refine D.seq ?_ | refine L.move (k := ?_) | refine L.assign (k := ?_) | refine L.cm (c := ?_) | refine L.ar (c := ?_) | refine L.fieldAddr (c := ?_) | refine L.load1 0 (c := ?_) | refine L.load1 1 (c := ?_) | refine L.load1 2 (c := ?_) | refine L.load1 3 (c := ?_) | refine L.load1 4 (c := ?_) | refine L.loadA 0 (c := ?_) | refine L.loadA 1 (c := ?_) | refine L.loadA 2 (c := ?_) | refine L.loadA 3 (c := ?_) | refine L.loadA 4 (c := ?_) | refine L.storeV 0 (c := ?_) | refine L.storeV 1 (c := ?_) | refine L.storeV 2 (c := ?_) | refine L.storeV 3 (c := ?_) | refine L.storeV 4 (c := ?_) | refine L.extract (c := ?_) | refine L.build (c := ?_) | refine L.alloc (c := fun _ => ?_) | refine L.box (c := fun _ => ?_) | refine L.nilCheck (k := ?_) | refine C.yes (h1 := ?_) | refine C.no (h1 := ?_) | refine L.pickT (k := ?_) | refine L.pickF (k := ?_) | refine L.want (k := ?_) | refine L.pass (k := ?_) | refine L.not (c := ?_) | refine L.lenS (c := ?_) | refine L.strNe (c := ?_) | refine L.strEq (c := ?_) | refine L.lenV (c := ?_) | refine C.block ?_ | refine D.blkNormal ?_ | refine C.ret ?_ | refine D.thenRet ?_ | refine D.blkRet ?_ | refine C.exit ?_ | refine D.thenExit ?_ | refine D.blkExit ?_ | refine D.blkOther (h := ?_) | refine C.skip ?_ | refine L.convI (c := ?_) | refine L.makeMap (c := fun _ => ?_) | refine D.any ?_ | refine D.seqR (h := ?_) | refine L.eqA (c := ?_) | refine L.neA (c := ?_) | refine L.funNil (c := ?_) | refine L.eqB (c := ?_) | refine L.neB (c := ?_) | refine L.passU (k := ?_) | refine L.makeFunc (k := ?_) | refine L.buildS (c := fun _ => ?_) | exact D.endsQ | refine QL.fin ?_ | refine C.quiet (h := ?_) | refine C.mixed (h := ?_) | refine QW.fin (h := ?_) | refine QW.load 0 (k := ?_) | refine QW.load 1 (k := ?_) | refine QW.load 2 (k := ?_) | refine QW.load 3 (k := ?_) | refine QW.load 4 (k := ?_) | refine QW.load 5 (k := ?_) | refine QW.loadA 0 (k := ?_) | refine QW.loadA 1 (k := ?_) | refine QW.loadA 2 (k := ?_) | refine QW.loadA 3 (k := ?_) | refine QW.loadA 4 (k := ?_) | refine QW.loadA 5 (k := ?_) | refine QW.store 0 (k := ?_) | refine QW.store 1 (k := ?_) | refine QW.store 2 (k := ?_) | refine QW.store 3 (k := ?_) | refine QW.store 4 (k := ?_) | refine QW.store 5 (k := ?_) | (refine QW.free (v := ?_) (by exact rfl) (by exact rfl) (fun w1 hk1 => ?_) ?_; rotate_left) | refine N.fin (h := ?_) | refine L.assertY (c := ?_) | refine L.assertN (c := ?_) | refine N.one (i := 0) (h := ?_) | refine N.one (i := 1) (h := ?_) | refine N.one (i := 2) (h := ?_) | refine N.one (i := 3) (h := ?_) | refine N.one (i := 4) (h := ?_) | refine N.one (i := 5) (h := ?_) | refine N.one (i := 6) (h := ?_) | refine N.one (i := 7) (h := ?_) | refine N.one (i := 8) (h := ?_) | refine N.one (i := 9) (h := ?_) | refine N.one (i := 10) (h := ?_) | refine N.one (i := 11) (h := ?_) | (refine QL.step (v := ?_) (by exact rfl) (by exact rfl) ?_ ?_; rotate_left))
        · exact D.ret (vs := [.bool true]) (RV.tmp rfl RV.nil) (fun w' hw => PostW.mkD (hit.aj _) hJ' 0 hw rfl (.inl ⟨rfl, rfl, rfl⟩))
        · exact D.ret (vs := [.bool false]) (RV.tmp rfl RV.nil) (fun w' hw => PostW.mkD (hit.ax _) hJ' 0 hw rfl (.inr ⟨rfl, rfl, rfl⟩))
    · refine L.load1 0 (c := ?_)
      refine L.nil ?_
      refine D.any ?_
      refine N.any (rs := [4, 9]) (by decide +kernel) (by simp) (List.forall_mem_cons.2 ⟨⟨_, rfl, ?_⟩, List.forall_mem_cons.2 ⟨⟨_, rfl, ?_⟩, fun _ h => absurd h List.not_mem_nil⟩⟩)
      · refine L.load1 0 (c := ?_)
        refine L.nil ?_
        refine D.any ?_
        refine N.one (i := 9) (h := ?_)
        refine L.load1 0 (c := ?_)
        refine L.nil ?_
        refine D.any ?_
        refine N.take 15 rfl (Clm.sliceS (lo := f) (hi := to) rfl (.inr ⟨_, _, rfl, rfl⟩) (.inr ⟨_, _, rfl, rfl⟩) hf ht) rfl (by decide +kernel) (by decide +kernel) (by decide +kernel) (fun _ _ _ h => h) rfl ?_
        refine N.take 20 rfl (Clm.build rfl rfl) rfl (by decide +kernel) (by decide +kernel) (by decide +kernel) (fun _ _ _ h => h) rfl ?_
        refine N.one (i := 21) (h := ?_)
        refine L.yieldW hit ⟨kd, s.extract f to, f⟩ hJ hV (by exact rfl) (by exact rfl) (by exact rfl) (by exact rfl) (fun W' hJ' => ?_) (fun W' hJ' => ?_)
        all_goals
          refine L.nil ?_
          refine D.anyR (h := ?_)
          refine N.take 22 rfl (Clm.not rfl) rfl (by decide +kernel) (by decide +kernel) (by decide +kernel) (fun _ _ _ h => h) rfl ?_
          refine N.take 23 rfl (Clm.nilCheck rfl) rfl (by decide +kernel) (by decide +kernel) (by decide +kernel) (fun _ _ _ h => h) rfl ?_
          refine N.take 24 rfl (Clm.fieldAddr rfl) rfl (by decide +kernel) (by decide +kernel) (by decide +kernel) (fun _ _ _ h => h) rfl ?_
          refine N.one (i := 25) (h := ?_)
          refine L.storeV 0 (c := ?_)
          refine L.nil ?_
          refine D.any ?_
          refine N.fin (h := ?_)
          repeat (first | refine C.seq ?_ | refine C.region ?_ | refine L.nil ?_ | refine D.seq ?_ | refine L.move (k := ?_) | refine L.assign (k := ?_) | refine L.cm (c := ?_) | refine L.ar (c := ?_) | refine L.fieldAddr (c := ?_) | refine L.load1 0 (c := ?_) | refine L.load1 1 (c := ?_) | refine L.load1 2 (c := ?_) | refine L.load1 3 (c := ?_) | refine L.load1 4 (c := ?_) | refine L.loadA 0 (c := ?_) | refine L.loadA 1 (c := ?_) | refine L.loadA 2 (c := ?_) | refine L.loadA 3 (c := ?_) | refine L.loadA 4 (c := ?_) | refine L.storeV 0 (c := ?_) | refine L.storeV 1 (c := ?_) | refine L.storeV 2 (c := ?_) | refine L.storeV 3 (c := ?_) | refine L.storeV 4 (c := ?_) | refine L.extract (c := ?_) | refine L.build (c := ?_) | refine L.alloc (c := fun _ => ?_) | refine L.box (c := fun _ => ?_) | refine L.nilCheck (k := ?_) | refine C.yes (h1 := ?_) | refine C.no (h1 := ?_) | refine L.pickT (k := ?_) | refine L.pickF (k := ?_) | refine L.want (k := ?_) | refine L.pass (k := ?_) | refine L.not (c := ?_) | refine L.lenS (c := ?_) | refine L.strNe (c := ?_) | refine L.strEq (c := ?_) | refine L.lenV (c := ?_) | refine C.block ?_ | refine D.blkNormal ?_ | refine C.ret ?_ | refine D.thenRet ?_ | refine D.blkRet ?_ | refine C.exit ?_ | refine D.thenExit ?_ | refine D.blkExit ?_ | refine D.blkOther (h := ?_) | refine C.skip ?_ | refine L.convI (c := ?_) | refine L.makeMap (c := fun _ => ?_) | refine D.any ?_ | refine D.seqR (h := ?_) | refine L.eqA (c := ?_) | refine L.neA (c := ?_) | refine L.funNil (c := ?_) | refine L.eqB (c := ?_) | refine L.neB (c := ?_) | refine L.passU (k := ?_) | refine L.makeFunc (k := ?_) | refine L.buildS (c := fun _ => ?_) | exact D.endsQ | refine QL.fin ?_ | refine C.quiet (h := ?_) | refine C.mixed (h := ?_) | refine QW.fin (h := ?_) | refine QW.load 0 (k := ?_) | refine QW.load 1 (k := ?_) | refine QW.load 2 (k := ?_) | refine QW.load 3 (k := ?_) | refine QW.load 4 (k := ?_) | refine QW.load 5 (k := ?_) | refine QW.loadA 0 (k := ?_) | refine QW.loadA 1 (k := ?_) | refine QW.loadA 2 (k := ?_) | refine QW.loadA 3 (k := ?_) | refine QW.loadA 4 (k := ?_) | refine QW.loadA 5 (k := ?_) | refine QW.store 0 (k := ?_) | refine QW.store 1 (k := ?_) | refine QW.store 2 (k := ?_) | refine QW.store 3 (k := ?_) | refine QW.store 4 (k := ?_) | refine QW.store 5 (k := ?_) | (refine QW.free (v := ?_) (by exact rfl) (by exact rfl) (fun w1 hk1 => ?_) ?_; rotate_left) | refine N.fin (h := ?_) | refine L.assertY (c := ?_) | refine L.assertN (c := ?_) | refine N.one (i := 0) (h := ?_) | refine N.one (i := 1) (h := ?_) | refine N.one (i := 2) (h := ?_) | refine N.one (i := 3) (h := ?_) | refine N.one (i := 4) (h := ?_) | refine N.one (i := 5) (h := ?_) | refine N.one (i := 6) (h := ?_) | refine N.one (i := 7) (h := ?_) | refine N.one (i := 8) (h := ?_) | refine N.one (i := 9) (h := ?_) | refine N.one (i := 10) (h := ?_) | refine N.one (i := 11) (h := ?_) | (refine QL.step (v := ?_) (by exact rfl) (by exact rfl) ?_ ?_; rotate_left))
        · exact D.ret (vs := [.bool true]) (RV.tmp rfl RV.nil) (fun w' hw => PostW.mkD (hit.aj _) hJ' 0 hw rfl (.inl ⟨rfl, rfl, rfl⟩))
        · exact D.ret (vs := [.bool false]) (RV.tmp rfl RV.nil) (fun w' hw => PostW.mkD (hit.ax _) hJ' 0 hw rfl (.inr ⟨rfl, rfl, rfl⟩))
      · refine L.load1 0 (c := ?_)
        refine L.nil ?_
        refine D.any ?_
        refine N.take 15 rfl (Clm.sliceS (lo := f) (hi := to) rfl (.inr ⟨_, _, rfl, rfl⟩) (.inr ⟨_, _, rfl, rfl⟩) hf ht) rfl (by decide +kernel) (by decide +kernel) (by decide +kernel) (fun _ _ _ h => h) rfl ?_
        refine N.take 20 rfl (Clm.build rfl rfl) rfl (by decide +kernel) (by decide +kernel) (by decide +kernel) (fun _ _ _ h => h) rfl ?_
        refine N.one (i := 4) (h := ?_)
        refine L.load1 0 (c := ?_)
        refine L.nil ?_
        refine D.any ?_
        refine N.one (i := 21) (h := ?_)
        refine L.yieldW hit ⟨kd, s.extract f to, f⟩ hJ hV (by exact rfl) (by exact rfl) (by exact rfl) (by exact rfl) (fun W' hJ' => ?_) (fun W' hJ' => ?_)
        all_goals
          refine L.nil ?_
          refine D.anyR (h := ?_)
          refine N.take 22 rfl (Clm.not rfl) rfl (by decide +kernel) (by decide +kernel) (by decide +kernel) (fun _ _ _ h => h) rfl ?_
          refine N.take 23 rfl (Clm.nilCheck rfl) rfl (by decide +kernel) (by decide +kernel) (by decide +kernel) (fun _ _ _ h => h) rfl ?_
          refine N.take 24 rfl (Clm.fieldAddr rfl) rfl (by decide +kernel) (by decide +kernel) (by decide +kernel) (fun _ _ _ h => h) rfl ?_
          refine N.one (i := 25) (h := ?_)
          refine L.storeV 0 (c := ?_)
          refine L.nil ?_
          refine D.any ?_
          refine N.fin (h := ?_)
          repeat (first | refine C.seq ?_ | refine C.region ?_ | refine L.nil ?_ | refine D.seq ?_ | refine L.move (k := ?_) | refine L.assign (k := ?_) | refine L.cm (c := ?_) | refine L.ar (c := ?_) | refine L.fieldAddr (c := ?_) | refine L.load1 0 (c := ?_) | refine L.load1 1 (c := ?_) | refine L.load1 2 (c := ?_) | refine L.load1 3 (c := ?_) | refine L.load1 4 (c := ?_) | refine L.loadA 0 (c := ?_) | refine L.loadA 1 (c := ?_) | refine L.loadA 2 (c := ?_) | refine L.loadA 3 (c := ?_) | refine L.loadA 4 (c := ?_) | refine L.storeV 0 (c := ?_) | refine L.storeV 1 (c := ?_) | refine L.storeV 2 (c := ?_) | refine L.storeV 3 (c := ?_) | refine L.storeV 4 (c := ?_) | refine L.extract (c := ?_) | refine L.build (c := ?_) | refine L.alloc (c := fun _ => ?_) | refine L.box (c := fun _ => ?_) | refine L.nilCheck (k := ?_) | refine C.yes (h1 := ?_) | refine C.no (h1 := ?_) | refine L.pickT (k := ?_) | refine L.pickF (k := ?_) | refine L.want (k := ?_) | refine L.pass (k := ?_) | refine L.not (c := ?_) | refine L.lenS (c := ?_) | refine L.strNe (c := ?_) | refine L.strEq (c := ?_) | refine L.lenV (c := ?_) | refine C.block ?_ | refine D.blkNormal ?_ | refine C.ret ?_ | refine D.thenRet ?_ | refine D.blkRet ?_ | refine C.exit ?_ | refine D.thenExit ?_ | refine D.blkExit ?_ | refine D.blkOther (h := ?_) | refine C.skip ?_ | refine L.convI (c := ?_) | refine L.makeMap (c := fun _ => ?_) | refine D.any ?_ | refine D.seqR (h := ?_) | refine L.eqA (c := ?_) | refine L.neA (c := ?_) | refine L.funNil (c := ?_) | refine L.eqB (c := ?_) | refine L.neB (c := ?_) | refine L.passU (k := ?_) | refine L.makeFunc (k := ?_) | refine L.buildS (c := fun _ => ?_) | exact D.endsQ | refine QL.fin ?_ | refine C.quiet (h := ?_) | refine C.mixed (h := ?_) | refine QW.fin (h := ?_) | refine QW.load 0 (k := ?_) | refine QW.load 1 (k := ?_) | refine QW.load 2 (k := ?_) | refine QW.load 3 (k := ?_) | refine QW.load 4 (k := ?_) | refine QW.load 5 (k := ?_) | refine QW.loadA 0 (k := ?_) | refine QW.loadA 1 (k := ?_) | refine QW.loadA 2 (k := ?_) | refine QW.loadA 3 (k := ?_) | refine QW.loadA 4 (k := ?_) | refine QW.loadA 5 (k := ?_) | refine QW.store 0 (k := ?_) | refine QW.store 1 (k := ?_) | refine QW.store 2 (k := ?_) | refine QW.store 3 (k := ?_) | refine QW.store 4 (k := ?_) | refine QW.store 5 (k := ?_) | (refine QW.free (v := ?_) (by exact rfl) (by exact rfl) (fun w1 hk1 => ?_) ?_; rotate_left) | refine N.fin (h := ?_) | refine L.assertY (c := ?_) | refine L.assertN (c := ?_) | refine N.one (i := 0) (h := ?_) | refine N.one (i := 1) (h := ?_) | refine N.one (i := 2) (h := ?_) | refine N.one (i := 3) (h := ?_) | refine N.one (i := 4) (h := ?_) | refine N.one (i := 5) (h := ?_) | refine N.one (i := 6) (h := ?_) | refine N.one (i := 7) (h := ?_) | refine N.one (i := 8) (h := ?_) | refine N.one (i := 9) (h := ?_) | refine N.one (i := 10) (h := ?_) | refine N.one (i := 11) (h := ?_) | (refine QL.step (v := ?_) (by exact rfl) (by exact rfl) ?_ ?_; rotate_left))
        · exact D.ret (vs := [.bool true]) (RV.tmp rfl RV.nil) (fun w' hw => PostW.mkD (hit.aj _) hJ' 0 hw rfl (.inl ⟨rfl, rfl, rfl⟩))
        · exact D.ret (vs := [.bool false]) (RV.tmp rfl RV.nil) (fun w' hw => PostW.mkD (hit.ax _) hJ' 0 hw rfl (.inr ⟨rfl, rfl, rfl⟩))
  · refine L.load1 0 (c := ?_)
    refine L.nil ?_
    refine D.any ?_
    refine N.any (rs := [4, 9, 13]) (by decide +kernel) (by simp) (List.forall_mem_cons.2 ⟨⟨_, rfl, ?_⟩, List.forall_mem_cons.2 ⟨⟨_, rfl, ?_⟩, List.forall_mem_cons.2 ⟨⟨_, rfl, ?_⟩, fun _ h => absurd h List.not_mem_nil⟩⟩⟩)
    · refine L.load1 0 (c := ?_)
      refine L.nil ?_
      refine D.any ?_
      refine N.any (rs := [9, 13]) (by decide +kernel) (by simp) (List.forall_mem_cons.2 ⟨⟨_, rfl, ?_⟩, List.forall_mem_cons.2 ⟨⟨_, rfl, ?_⟩, fun _ h => absurd h List.not_mem_nil⟩⟩)
      · refine L.load1 0 (c := ?_)
        refine L.nil ?_
        refine D.any ?_
        refine N.one (i := 13) (h := ?_)
        refine L.load1 0 (c := ?_)
        refine L.nil ?_
        refine D.any ?_
        refine N.take 15 rfl (Clm.sliceS (lo := f) (hi := to) rfl (.inr ⟨_, _, rfl, rfl⟩) (.inr ⟨_, _, rfl, rfl⟩) hf ht) rfl (by decide +kernel) (by decide +kernel) (by decide +kernel) (fun _ _ _ h => h) rfl ?_
        refine N.take 20 rfl (Clm.build rfl rfl) rfl (by decide +kernel) (by decide +kernel) (by decide +kernel) (fun _ _ _ h => h) rfl ?_
        refine N.one (i := 21) (h := ?_)
        refine L.yieldW hit ⟨kd, s.extract f to, f⟩ hJ hV (by exact rfl) (by exact rfl) (by exact rfl) (by exact rfl) (fun W' hJ' => ?_) (fun W' hJ' => ?_)
        all_goals
          refine L.nil ?_
          refine D.anyR (h := ?_)
          refine N.take 22 rfl (Clm.not rfl) rfl (by decide +kernel) (by decide +kernel) (by decide +kernel) (fun _ _ _ h => h) rfl ?_
          refine N.take 23 rfl (Clm.nilCheck rfl) rfl (by decide +kernel) (by decide +kernel) (by decide +kernel) (fun _ _ _ h => h) rfl ?_
          refine N.take 24 rfl (Clm.fieldAddr rfl) rfl (by decide +kernel) (by decide +kernel) (by decide +kernel) (fun _ _ _ h => h) rfl ?_
          refine N.one (i := 25) (h := ?_)
          refine L.storeV 0 (c := ?_)
          refine L.nil ?_
          refine D.any ?_
          refine N.fin (h := ?_)
          repeat (first | refine C.seq ?_ | refine C.region ?_ | refine L.nil ?_ | refine D.seq ?_ | refine L.move (k := ?_) | refine L.assign (k := ?_) | refine L.cm (c := ?_) | refine L.ar (c := ?_) | refine L.fieldAddr (c := ?_) | refine L.load1 0 (c := ?_) | refine L.load1 1 (c := ?_) | refine L.load1 2 (c := ?_) | refine L.load1 3 (c := ?_) | refine L.load1 4 (c := ?_) | refine L.loadA 0 (c := ?_) | refine L.loadA 1 (c := ?_) | refine L.loadA 2 (c := ?_) | refine L.loadA 3 (c := ?_) | refine L.loadA 4 (c := ?_) | refine L.storeV 0 (c := ?_) | refine L.storeV 1 (c := ?_) | refine L.storeV 2 (c := ?_) | refine L.storeV 3 (c := ?_) | refine L.storeV 4 (c := ?_) | refine L.extract (c := ?_) | refine L.build (c := ?_) | refine L.alloc (c := fun _ => ?_) | refine L.box (c := fun _ => ?_) | refine L.nilCheck (k := ?_) | refine C.yes (h1 := ?_) | refine C.no (h1 := ?_) | refine L.pickT (k := ?_) | refine L.pickF (k := ?_) | refine L.want (k := ?_) | refine L.pass (k := ?_) | refine L.not (c := ?_) | refine L.lenS (c := ?_) | refine L.strNe (c := ?_) | refine L.strEq (c := ?_) | refine L.lenV (c := ?_) | refine C.block ?_ | refine D.blkNormal ?_ | refine C.ret ?_ | refine D.thenRet ?_ | refine D.blkRet ?_ | refine C.exit ?_ | refine D.thenExit ?_ | refine D.blkExit ?_ | refine D.blkOther (h := ?_) | refine C.skip ?_ | refine L.convI (c := ?_) | refine L.makeMap (c := fun _ => ?_) | refine D.any ?_ | refine D.seqR (h := ?_) | refine L.eqA (c := ?_) | refine L.neA (c := ?_) | refine L.funNil (c := ?_) | refine L.eqB (c := ?_) | refine L.neB (c := ?_) | refine L.passU (k := ?_) | refine L.makeFunc (k := ?_) | refine L.buildS (c := fun _ => ?_) | exact D.endsQ | refine QL.fin ?_ | refine C.quiet (h := ?_) | refine C.mixed (h := ?_) | refine QW.fin (h := ?_) | refine QW.load 0 (k := ?_) | refine QW.load 1 (k := ?_) | refine QW.load 2 (k := ?_) | refine QW.load 3 (k := ?_) | refine QW.load 4 (k := ?_) | refine QW.load 5 (k := ?_) | refine QW.loadA 0 (k := ?_) | refine QW.loadA 1 (k := ?_) | refine QW.loadA 2 (k := ?_) | refine QW.loadA 3 (k := ?_) | refine QW.loadA 4 (k := ?_) | refine QW.loadA 5 (k := ?_) | refine QW.store 0 (k := ?_) | refine QW.store 1 (k := ?_) | refine QW.store 2 (k := ?_) | refine QW.store 3 (k := ?_) | refine QW.store 4 (k := ?_) | refine QW.store 5 (k := ?_) | (refine QW.free (v := ?_) (by exact rfl) (by exact rfl) (fun w1 hk1 => ?_) ?_; rotate_left) | refine N.fin (h := ?_) | refine L.assertY (c := ?_) | refine L.assertN (c := ?_) | refine N.one (i := 0) (h := ?_) | refine N.one (i := 1) (h := ?_) | refine N.one (i := 2) (h := ?_) | refine N.one (i := 3) (h := ?_) | refine N.one (i := 4) (h := ?_) | refine N.one (i := 5) (h := ?_) | refine N.one (i := 6) (h := ?_) | refine N.one (i := 7) (h := ?_) | refine N.one (i := 8) (h := ?_) | refine N.one (i := 9) (h := ?_) | refine N.one (i := 10) (h := ?_) | refine N.one (i := 11) (h := ?_) | (refine QL.step (v := ?_) (by exact rfl) (by exact rfl) ?_ ?_; rotate_left))
        · exact D.ret (vs := [.bool true]) (RV.tmp rfl RV.nil) (fun w' hw => PostW.mkD (hit.aj _) hJ' 0 hw rfl (.inl ⟨rfl, rfl, rfl⟩))
        · exact D.ret (vs := [.bool false]) (RV.tmp rfl RV.nil) (fun w' hw => PostW.mkD (hit.ax _) hJ' 0 hw rfl (.inr ⟨rfl, rfl, rfl⟩))
      · refine L.load1 0 (c := ?_)
        refine L.nil ?_
        refine D.any ?_
        refine N.one (i := 9) (h := ?_)
        refine L.load1 0 (c := ?_)
        refine L.nil ?_
        refine D.any ?_
        refine N.take 15 rfl (Clm.sliceS (lo := f) (hi := to) rfl (.inr ⟨_, _, rfl, rfl⟩) (.inr ⟨_, _, rfl, rfl⟩) hf ht) rfl (by decide +kernel) (by decide +kernel) (by decide +kernel) (fun _ _ _ h => h) rfl ?_
        refine N.take 20 rfl (Clm.build rfl rfl) rfl (by decide +kernel) (by decide +kernel) (by decide +kernel) (fun _ _ _ h => h) rfl ?_
        refine N.one (i := 21) (h := ?_)
        refine L.yieldW hit ⟨kd, s.extract f to, f⟩ hJ hV (by exact rfl) (by exact rfl) (by exact rfl) (by exact rfl) (fun W' hJ' => ?_) (fun W' hJ' => ?_)
        all_goals
          refine L.nil ?_
          refine D.anyR (h := ?_)
          refine N.take 22 rfl (Clm.not rfl) rfl (by decide +kernel) (by decide +kernel) (by decide +kernel) (fun _ _ _ h => h) rfl ?_
          refine N.take 23 rfl (Clm.nilCheck rfl) rfl (by decide +kernel) (by decide +kernel) (by decide +kernel) (fun _ _ _ h => h) rfl ?_
          refine N.take 24 rfl (Clm.fieldAddr rfl) rfl (by decide +kernel) (by decide +kernel) (by decide +kernel) (fun _ _ _ h => h) rfl ?_
          refine N.one (i := 25) (h := ?_)
          refine L.storeV 0 (c := ?_)
          refine L.nil ?_
          refine D.any ?_
          refine N.fin (h := ?_)
          repeat (first | refine C.seq ?_ | refine C.region ?_ | refine L.nil ?_ | refine D.seq ?_ | refine L.move (k := ?_) | refine L.assign (k := ?_) | refine L.cm (c := ?_) | refine L.ar (c := ?_) | refine L.fieldAddr (c := ?_) | refine L.load1 0 (c := ?_) | refine L.load1 1 (c := ?_) | refine L.load1 2 (c := ?_) | refine L.load1 3 (c := ?_) | refine L.load1 4 (c := ?_) | refine L.loadA 0 (c := ?_) | refine L.loadA 1 (c := ?_) | refine L.loadA 2 (c := ?_) | refine L.loadA 3 (c := ?_) | refine L.loadA 4 (c := ?_) | refine L.storeV 0 (c := ?_) | refine L.storeV 1 (c := ?_) | refine L.storeV 2 (c := ?_) | refine L.storeV 3 (c := ?_) | refine L.storeV 4 (c := ?_) | refine L.extract (c := ?_) | refine L.build (c := ?_) | refine L.alloc (c := fun _ => ?_) | refine L.box (c := fun _ => ?_) | refine L.nilCheck (k := ?_) | refine C.yes (h1 := ?_) | refine C.no (h1 := ?_) | refine L.pickT (k := ?_) | refine L.pickF (k := ?_) | refine L.want (k := ?_) | refine L.pass (k := ?_) | refine L.not (c := ?_) | refine L.lenS (c := ?_) | refine L.strNe (c := ?_) | refine L.strEq (c := ?_) | refine L.lenV (c := ?_) | refine C.block ?_ | refine D.blkNormal ?_ | refine C.ret ?_ | refine D.thenRet ?_ | refine D.blkRet ?_ | refine C.exit ?_ | refine D.thenExit ?_ | refine D.blkExit ?_ | refine D.blkOther (h := ?_) | refine C.skip ?_ | refine L.convI (c := ?_) | refine L.makeMap (c := fun _ => ?_) | refine D.any ?_ | refine D.seqR (h := ?_) | refine L.eqA (c := ?_) | refine L.neA (c := ?_) | refine L.funNil (c := ?_) | refine L.eqB (c := ?_) | refine L.neB (c := ?_) | refine L.passU (k := ?_) | refine L.makeFunc (k := ?_) | refine L.buildS (c := fun _ => ?_) | exact D.endsQ | refine QL.fin ?_ | refine C.quiet (h := ?_) | refine C.mixed (h := ?_) | refine QW.fin (h := ?_) | refine QW.load 0 (k := ?_) | refine QW.load 1 (k := ?_) | refine QW.load 2 (k := ?_) | refine QW.load 3 (k := ?_) | refine QW.load 4 (k := ?_) | refine QW.load 5 (k := ?_) | refine QW.loadA 0 (k := ?_) | refine QW.loadA 1 (k := ?_) | refine QW.loadA 2 (k := ?_) | refine QW.loadA 3 (k := ?_) | refine QW.loadA 4 (k := ?_) | refine QW.loadA 5 (k := ?_) | refine QW.store 0 (k := ?_) | refine QW.store 1 (k := ?_) | refine QW.store 2 (k := ?_) | refine QW.store 3 (k := ?_) | refine QW.store 4 (k := ?_) | refine QW.store 5 (k := ?_) | (refine QW.free (v := ?_) (by exact rfl) (by exact rfl) (fun w1 hk1 => ?_) ?_; rotate_left) | refine N.fin (h := ?_) | refine L.assertY (c := ?_) | refine L.assertN (c := ?_) | refine N.one (i := 0) (h := ?_) | refine N.one (i := 1) (h := ?_) | refine N.one (i := 2) (h := ?_) | refine N.one (i := 3) (h := ?_) | refine N.one (i := 4) (h := ?_) | refine N.one (i := 5) (h := ?_) | refine N.one (i := 6) (h := ?_) | refine N.one (i := 7) (h := ?_) | refine N.one (i := 8) (h := ?_) | refine N.one (i := 9) (h := ?_) | refine N.one (i := 10) (h := ?_) | refine N.one (i := 11) (h := ?_) | (refine QL.step (v := ?_) (by exact rfl) (by exact rfl) ?_ ?_; rotate_left))
        · exact D.ret (vs := [.bool true]) (RV.tmp rfl RV.nil) (fun w' hw => PostW.mkD (hit.aj _) hJ' 0 hw rfl (.inl ⟨rfl, rfl, rfl⟩))
        · exact D.ret (vs := [.bool false]) (RV.tmp rfl RV.nil) (fun w' hw => PostW.mkD (hit.ax _) hJ' 0 hw rfl (.inr ⟨rfl, rfl, rfl⟩))
    · refine L.load1 0 (c := ?_)
      refine L.nil ?_
      refine D.any ?_
      refine N.any (rs := [4, 13]) (by decide +kernel) (by simp) (List.forall_mem_cons.2 ⟨⟨_, rfl, ?_⟩, List.forall_mem_cons.2 ⟨⟨_, rfl, ?_⟩, fun _ h => absurd h List.not_mem_nil⟩⟩)
      · refine L.load1 0 (c := ?_)
        refine L.nil ?_
        refine D.any ?_
        refine N.one (i := 13) (h := ?_)
        refine L.load1 0 (c := ?_)
        refine L.nil ?_
        refine D.any ?_
        refine N.take 15 rfl (Clm.sliceS (lo := f) (hi := to) rfl (.inr ⟨_, _, rfl, rfl⟩) (.inr ⟨_, _, rfl, rfl⟩) hf ht) rfl (by decide +kernel) (by decide +kernel) (by decide +kernel) (fun _ _ _ h => h) rfl ?_
        refine N.take 20 rfl (Clm.build rfl rfl) rfl (by decide +kernel) (by decide +kernel) (by decide +kernel) (fun _ _ _ h => h) rfl ?_
        refine N.one (i := 21) (h := ?_)
        refine L.yieldW hit ⟨kd, s.extract f to, f⟩ hJ hV (by exact rfl) (by exact rfl) (by exact rfl) (by exact rfl) (fun W' hJ' => ?_) (fun W' hJ' => ?_)
        all_goals
          refine L.nil ?_
          refine D.anyR (h := ?_)
          refine N.take 22 rfl (Clm.not rfl) rfl (by decide +kernel) (by decide +kernel) (by decide +kernel) (fun _ _ _ h => h) rfl ?_
          refine N.take 23 rfl (Clm.nilCheck rfl) rfl (by decide +kernel) (by decide +kernel) (by decide +kernel) (fun _ _ _ h => h) rfl ?_
          refine N.take 24 rfl (Clm.fieldAddr rfl) rfl (by decide +kernel) (by decide +kernel) (by decide +kernel) (fun _ _ _ h => h) rfl ?_
          refine N.one (i := 25) (h := ?_)
          refine L.storeV 0 (c := ?_)
          refine L.nil ?_
          refine D.any ?_
          refine N.fin (h := ?_)
          repeat (first | refine C.seq ?_ | refine C.region ?_ | refine L.nil ?_ | refine D.seq ?_ | refine L.move (k := ?_) | refine L.assign (k := ?_) | refine L.cm (c := ?_) | refine L.ar (c := ?_) | refine L.fieldAddr (c := ?_) | refine L.load1 0 (c := ?_) | refine L.load1 1 (c := ?_) | refine L.load1 2 (c := ?_) | refine L.load1 3 (c := ?_) | refine L.load1 4 (c := ?_) | refine L.loadA 0 (c := ?_) | refine L.loadA 1 (c := ?_) | refine L.loadA 2 (c := ?_) | refine L.loadA 3 (c := ?_) | refine L.loadA 4 (c := ?_) | refine L.storeV 0 (c := ?_) | refine L.storeV 1 (c := ?_) | refine L.storeV 2 (c := ?_) | refine L.storeV 3 (c := ?_) | refine L.storeV 4 (c := ?_) | refine L.extract (c := ?_) | refine L.build (c := ?_) | refine L.alloc (c := fun _ => ?_) | refine L.box (c := fun _ => ?_) | refine L.nilCheck (k := ?_) | refine C.yes (h1 := ?_) | refine C.no (h1 := ?_) | refine L.pickT (k := ?_) | refine L.pickF (k := ?_) | refine L.want (k := ?_) | refine L.pass (k := ?_) | refine L.not (c := ?_) | refine L.lenS (c := ?_) | refine L.strNe (c := ?_) | refine L.strEq (c := ?_) | refine L.lenV (c := ?_) | refine C.block ?_ | refine D.blkNormal ?_ | refine C.ret ?_ | refine D.thenRet ?_ | refine D.blkRet ?_ | refine C.exit ?_ | refine D.thenExit ?_ | refine D.blkExit ?_ | refine D.blkOther (h := ?_) | refine C.skip ?_ | refine L.convI (c := ?_) | refine L.makeMap (c := fun _ => ?_) | refine D.any ?_ | refine D.seqR (h := ?_) | refine L.eqA (c := ?_) | refine L.neA (c := ?_) | refine L.funNil (c := ?_) | refine L.eqB (c := ?_) | refine L.neB (c := ?_) | refine L.passU (k := ?_) | refine L.makeFunc (k := ?_) | refine L.buildS (c := fun _ => ?_) | exact D.endsQ | refine QL.fin ?_ | refine C.quiet (h := ?_) | refine C.mixed (h := ?_) | refine QW.fin (h := ?_) | refine QW.load 0 (k := ?_) | refine QW.load 1 (k := ?_) | refine QW.load 2 (k := ?_) | refine QW.load 3 (k := ?_) | refine QW.load 4 (k := ?_) | refine QW.load 5 (k := ?_) | refine QW.loadA 0 (k := ?_) | refine QW.loadA 1 (k := ?_) | refine QW.loadA 2 (k := ?_) | refine QW.loadA 3 (k := ?_) | refine QW.loadA 4 (k := ?_) | refine QW.loadA 5 (k := ?_) | refine QW.store 0 (k := ?_) | refine QW.store 1 (k := ?_) | refine QW.store 2 (k := ?_) | refine QW.store 3 (k := ?_) | refine QW.store 4 (k := ?_) | refine QW.store 5 (k := ?_) | (refine QW.free (v := ?_) (by exact rfl) (by exact rfl) (fun w1 hk1 => ?_) ?_; rotate_left) | refine N.fin (h := ?_) | refine L.assertY (c := ?_) | refine L.assertN (c := ?_) | refine N.one (i := 0) (h := ?_) | refine N.one (i := 1) (h := ?_) | refine N.one (i := 2) (h := ?_) | refine N.one (i := 3) (h := ?_) | refine N.one (i := 4) (h := ?_) | refine N.one (i := 5) (h := ?_) | refine N.one (i := 6) (h := ?_) | refine N.one (i := 7) (h := ?_) | refine N.one (i := 8) (h := ?_) | refine N.one (i := 9) (h := ?_) | refine N.one (i := 10) (h := ?_) | refine N.one (i := 11) (h := ?_) | (refine QL.step (v := ?_) (by exact rfl) (by exact rfl) ?_ ?_; rotate_left))
        · exact D.ret (vs := [.bool true]) (RV.tmp rfl RV.nil) (fun w' hw => PostW.mkD (hit.aj _) hJ' 0 hw rfl (.inl ⟨rfl, rfl, rfl⟩))
        · exact D.ret (vs := [.bool false]) (RV.tmp rfl RV.nil) (fun w' hw => PostW.mkD (hit.ax _) hJ' 0 hw rfl (.inr ⟨rfl, rfl, rfl⟩))
      · refine L.load1 0 (c := ?_)
        refine L.nil ?_
        refine D.any ?_
        refine N.take 15 rfl (Clm.sliceS (lo := f) (hi := to) rfl (.inr ⟨_, _, rfl, rfl⟩) (.inr ⟨_, _, rfl, rfl⟩) hf ht) rfl (by decide +kernel) (by decide +kernel) (by decide +kernel) (fun _ _ _ h => h) rfl ?_
        refine N.take 20 rfl (Clm.build rfl rfl) rfl (by decide +kernel) (by decide +kernel) (by decide +kernel) (fun _ _ _ h => h) rfl ?_
        refine N.one (i := 4) (h := ?_)
        refine L.load1 0 (c := ?_)
        refine L.nil ?_
        refine D.any ?_
        refine N.one (i := 21) (h := ?_)
        refine L.yieldW hit ⟨kd, s.extract f to, f⟩ hJ hV (by exact rfl) (by exact rfl) (by exact rfl) (by exact rfl) (fun W' hJ' => ?_) (fun W' hJ' => ?_)
        all_goals
          refine L.nil ?_
          refine D.anyR (h := ?_)
          refine N.take 22 rfl (Clm.not rfl) rfl (by decide +kernel) (by decide +kernel) (by decide +kernel) (fun _ _ _ h => h) rfl ?_
          refine N.take 23 rfl (Clm.nilCheck rfl) rfl (by decide +kernel) (by decide +kernel) (by decide +kernel) (fun _ _ _ h => h) rfl ?_
          refine N.take 24 rfl (Clm.fieldAddr rfl) rfl (by decide +kernel) (by decide +kernel) (by decide +kernel) (fun _ _ _ h => h) rfl ?_
          refine N.one (i := 25) (h := ?_)
          refine L.storeV 0 (c := ?_)
          refine L.nil ?_
          refine D.any ?_
          refine N.fin (h := ?_)
          repeat (first | refine C.seq ?_ | refine C.region ?_ | refine L.nil ?_ | refine D.seq ?_ | refine L.move (k := ?_) | refine L.assign (k := ?_) | refine L.cm (c := ?_) | refine L.ar (c := ?_) | refine L.fieldAddr (c := ?_) | refine L.load1 0 (c := ?_) | refine L.load1 1 (c := ?_) | refine L.load1 2 (c := ?_) | refine L.load1 3 (c := ?_) | refine L.load1 4 (c := ?_) | refine L.loadA 0 (c := ?_) | refine L.loadA 1 (c := ?_) | refine L.loadA 2 (c := ?_) | refine L.loadA 3 (c := ?_) | refine L.loadA 4 (c := ?_) | refine L.storeV 0 (c := ?_) | refine L.storeV 1 (c := ?_) | refine L.storeV 2 (c := ?_) | refine L.storeV 3 (c := ?_) | refine L.storeV 4 (c := ?_) | refine L.extract (c := ?_) | refine L.build (c := ?_) | refine L.alloc (c := fun _ => ?_) | refine L.box (c := fun _ => ?_) | refine L.nilCheck (k := ?_) | refine C.yes (h1 := ?_) | refine C.no (h1 := ?_) | refine L.pickT (k := ?_) | refine L.pickF (k := ?_) | refine L.want (k := ?_) | refine L.pass (k := ?_) | refine L.not (c := ?_) | refine L.lenS (c := ?_) | refine L.strNe (c := ?_) | refine L.strEq (c := ?_) | refine L.lenV (c := ?_) | refine C.block ?_ | refine D.blkNormal ?_ | refine C.ret ?_ | refine D.thenRet ?_ | refine D.blkRet ?_ | refine C.exit ?_ | refine D.thenExit ?_ | refine D.blkExit ?_ | refine D.blkOther (h := ?_) | refine C.skip ?_ | refine L.convI (c := ?_) | refine L.makeMap (c := fun _ => ?_) | refine D.any ?_ | refine D.seqR (h := ?_) | refine L.eqA (c := ?_) | refine L.neA (c := ?_) | refine L.funNil (c := ?_) | refine L.eqB (c := ?_) | refine L.neB (c := ?_) | refine L.passU (k := ?_) | refine L.makeFunc (k := ?_) | refine L.buildS (c := fun _ => ?_) | exact D.endsQ | refine QL.fin ?_ | refine C.quiet (h := ?_) | refine C.mixed (h := ?_) | refine QW.fin (h := ?_) | refine QW.load 0 (k := ?_) | refine QW.load 1 (k := ?_) | refine QW.load 2 (k := ?_) | refine QW.load 3 (k := ?_) | refine QW.load 4 (k := ?_) | refine QW.load 5 (k := ?_) | refine QW.loadA 0 (k := ?_) | refine QW.loadA 1 (k := ?_) | refine QW.loadA 2 (k := ?_) | refine QW.loadA 3 (k := ?_) | refine QW.loadA 4 (k := ?_) | refine QW.loadA 5 (k := ?_) | refine QW.store 0 (k := ?_) | refine QW.store 1 (k := ?_) | refine QW.store 2 (k := ?_) | refine QW.store 3 (k := ?_) | refine QW.store 4 (k := ?_) | refine QW.store 5 (k := ?_) | (refine QW.free (v := ?_) (by exact rfl) (by exact rfl) (fun w1 hk1 => ?_) ?_; rotate_left) | refine N.fin (h := ?_) | refine L.assertY (c := ?_) | refine L.assertN (c := ?_) | refine N.one (i := 0) (h := ?_) | refine N.one (i := 1) (h := ?_) | refine N.one (i := 2) (h := ?_) | refine N.one (i := 3) (h := ?_) | refine N.one (i := 4) (h := ?_) | refine N.one (i := 5) (h := ?_) | refine N.one (i := 6) (h := ?_) | refine N.one (i := 7) (h := ?_) | refine N.one (i := 8) (h := ?_) | refine N.one (i := 9) (h := ?_) | refine N.one (i := 10) (h := ?_) | refine N.one (i := 11) (h := ?_) | (refine QL.step (v := ?_) (by exact rfl) (by exact rfl) ?_ ?_; rotate_left))
        · exact D.ret (vs := [.bool true]) (RV.tmp rfl RV.nil) (fun w' hw => PostW.mkD (hit.aj _) hJ' 0 hw rfl (.inl ⟨rfl, rfl, rfl⟩))
        · exact D.ret (vs := [.bool false]) (RV.tmp rfl RV.nil) (fun w' hw => PostW.mkD (hit.ax _) hJ' 0 hw rfl (.inr ⟨rfl, rfl, rfl⟩))
    · refine L.load1 0 (c := ?_)
      refine L.nil ?_
      refine D.any ?_
      refine N.any (rs := [4, 9]) (by decide +kernel) (by simp) (List.forall_mem_cons.2 ⟨⟨_, rfl, ?_⟩, List.forall_mem_cons.2 ⟨⟨_, rfl, ?_⟩, fun _ h => absurd h List.not_mem_nil⟩⟩)
      · refine L.load1 0 (c := ?_)
        refine L.nil ?_
        refine D.any ?_
        refine N.one (i := 9) (h := ?_)
        refine L.load1 0 (c := ?_)
        refine L.nil ?_
        refine D.any ?_
        refine N.take 15 rfl (Clm.sliceS (lo := f) (hi := to) rfl (.inr ⟨_, _, rfl, rfl⟩) (.inr ⟨_, _, rfl, rfl⟩) hf ht) rfl (by decide +kernel) (by decide +kernel) (by decide +kernel) (fun _ _ _ h => h) rfl ?_
        refine N.take 20 rfl (Clm.build rfl rfl) rfl (by decide +kernel) (by decide +kernel) (by decide +kernel) (fun _ _ _ h => h) rfl ?_
        refine N.one (i := 21) (h := ?_)
        refine L.yieldW hit ⟨kd, s.extract f to, f⟩ hJ hV (by exact rfl) (by exact rfl) (by exact rfl) (by exact rfl) (fun W' hJ' => ?_) (fun W' hJ' => ?_)
        all_goals
          refine L.nil ?_
          refine D.anyR (h := ?_)
          refine N.take 22 rfl (Clm.not rfl) rfl (by decide +kernel) (by decide +kernel) (by decide +kernel) (fun _ _ _ h => h) rfl ?_
          refine N.take 23 rfl (Clm.nilCheck rfl) rfl (by decide +kernel) (by decide +kernel) (by decide +kernel) (fun _ _ _ h => h) rfl ?_
          refine N.take 24 rfl (Clm.fieldAddr rfl) rfl (by decide +kernel) (by decide +kernel) (by decide +kernel) (fun _ _ _ h => h) rfl ?_
          refine N.one (i := 25) (h := ?_)
          refine L.storeV 0 (c := ?_)
          refine L.nil ?_
          refine D.any ?_
          refine N.fin (h := ?_)
          repeat (first | refine C.seq ?_ | refine C.region ?_ | refine L.nil ?_ | refine D.seq ?_ | refine L.move (k := ?_) | refine L.assign (k := ?_) | refine L.cm (c := ?_) | refine L.ar (c := ?_) | refine L.fieldAddr (c := ?_) | refine L.load1 0 (c := ?_) | refine L.load1 1 (c := ?_) | refine L.load1 2 (c := ?_) | refine L.load1 3 (c := ?_) | refine L.load1 4 (c := ?_) | refine L.loadA 0 (c := ?_) | refine L.loadA 1 (c := ?_) | refine L.loadA 2 (c := ?_) | refine L.loadA 3 (c := ?_) | refine L.loadA 4 (c := ?_) | refine L.storeV 0 (c := ?_) | refine L.storeV 1 (c := ?_) | refine L.storeV 2 (c := ?_) | refine L.storeV 3 (c := ?_) | refine L.storeV 4 (c := ?_) | refine L.extract (c := ?_) | refine L.build (c := ?_) | refine L.alloc (c := fun _ => ?_) | refine L.box (c := fun _ => ?_) | refine L.nilCheck (k := ?_) | refine C.yes (h1 := ?_) | refine C.no (h1 := ?_) | refine L.pickT (k := ?_) | refine L.pickF (k := ?_) | refine L.want (k := ?_) | refine L.pass (k := ?_) | refine L.not (c := ?_) | refine L.lenS (c := ?_) | refine L.strNe (c := ?_) | refine L.strEq (c := ?_) | refine L.lenV (c := ?_) | refine C.block ?_ | refine D.blkNormal ?_ | refine C.ret ?_ | refine D.thenRet ?_ | refine D.blkRet ?_ | refine C.exit ?_ | refine D.thenExit ?_ | refine D.blkExit ?_ | refine D.blkOther (h := ?_) | refine C.skip ?_ | refine L.convI (c := ?_) | refine L.makeMap (c := fun _ => ?_) | refine D.any ?_ | refine D.seqR (h := ?_) | refine L.eqA (c := ?_) | refine L.neA (c := ?_) | refine L.funNil (c := ?_) | refine L.eqB (c := ?_) | refine L.neB (c := ?_) | refine L.passU (k := ?_) | refine L.makeFunc (k := ?_) | refine L.buildS (c := fun _ => ?_) | exact D.endsQ | refine QL.fin ?_ | refine C.quiet (h := ?_) | refine C.mixed (h := ?_) | refine QW.fin (h := ?_) | refine QW.load 0 (k := ?_) | refine QW.load 1 (k := ?_) | refine QW.load 2 (k := ?_) | refine QW.load 3 (k := ?_) | refine QW.load 4 (k := ?_) | refine QW.load 5 (k := ?_) | refine QW.loadA 0 (k := ?_) | refine QW.loadA 1 (k := ?_) | refine QW.loadA 2 (k := ?_) | refine QW.loadA 3 (k := ?_) | refine QW.loadA 4 (k := ?_) | refine QW.loadA 5 (k := ?_) | refine QW.store 0 (k := ?_) | refine QW.store 1 (k := ?_) | refine QW.store 2 (k := ?_) | refine QW.store 3 (k := ?_) | refine QW.store 4 (k := ?_) | refine QW.store 5 (k := ?_) | (refine QW.free (v := ?_) (by exact rfl) (by exact rfl) (fun w1 hk1 => ?_) ?_; rotate_left) | refine N.fin (h := ?_) | refine L.assertY (c := ?_) | refine L.assertN (c := ?_) | refine N.one (i := 0) (h := ?_) | refine N.one (i := 1) (h := ?_) | refine N.one (i := 2) (h := ?_) | refine N.one (i := 3) (h := ?_) | refine N.one (i := 4) (h := ?_) | refine N.one (i := 5) (h := ?_) | refine N.one (i := 6) (h := ?_) | refine N.one (i := 7) (h := ?_) | refine N.one (i := 8) (h := ?_) | refine N.one (i := 9) (h := ?_) | refine N.one (i := 10) (h := ?_) | refine N.one (i := 11) (h := ?_) | (refine QL.step (v := ?_) (by exact rfl) (by exact rfl) ?_ ?_; rotate_left))
        · exact D.ret (vs := [.bool true]) (RV.tmp rfl RV.nil) (fun w' hw => PostW.mkD (hit.aj _) hJ' 0 hw rfl (.inl ⟨rfl, rfl, rfl⟩))
        · exact D.ret (vs := [.bool false]) (RV.tmp rfl RV.nil) (fun w' hw => PostW.mkD (hit.ax _) hJ' 0 hw rfl (.inr ⟨rfl, rfl, rfl⟩))
      · refine L.load1 0 (c := ?_)
        refine L.nil ?_
        refine D.any ?_
        refine N.take 15 rfl (Clm.sliceS (lo := f) (hi := to) rfl (.inr ⟨_, _, rfl, rfl⟩) (.inr ⟨_, _, rfl, rfl⟩) hf ht) rfl (by decide +kernel) (by decide +kernel) (by decide +kernel) (fun _ _ _ h => h) rfl ?_
        refine N.take 20 rfl (Clm.build rfl rfl) rfl (by decide +kernel) (by decide +kernel) (by decide +kernel) (fun _ _ _ h => h) rfl ?_
        refine N.one (i := 4) (h := ?_)
        refine L.load1 0 (c := ?_)
        refine L.nil ?_
        refine D.any ?_
        refine N.one (i := 21) (h := ?_)
        refine L.yieldW hit ⟨kd, s.extract f to, f⟩ hJ hV (by exact rfl) (by exact rfl) (by exact rfl) (by exact rfl) (fun W' hJ' => ?_) (fun W' hJ' => ?_)
        all_goals
          refine L.nil ?_
          refine D.anyR (h := ?_)
          refine N.take 22 rfl (Clm.not rfl) rfl (by decide +kernel) (by decide +kernel) (by decide +kernel) (fun _ _ _ h => h) rfl ?_
          refine N.take 23 rfl (Clm.nilCheck rfl) rfl (by decide +kernel) (by decide +kernel) (by decide +kernel) (fun _ _ _ h => h) rfl ?_
          refine N.take 24 rfl (Clm.fieldAddr rfl) rfl (by decide +kernel) (by decide +kernel) (by decide +kernel) (fun _ _ _ h => h) rfl ?_
          refine N.one (i := 25) (h := ?_)
          refine L.storeV 0 (c := ?_)
          refine L.nil ?_
          refine D.any ?_
          refine N.fin (h := ?_)
          repeat (first | refine C.seq ?_ | refine C.region ?_ | refine L.nil ?_ | refine D.seq ?_ | refine L.move (k := ?_) | refine L.assign (k := ?_) | refine L.cm (c := ?_) | refine L.ar (c := ?_) | refine L.fieldAddr (c := ?_) | refine L.load1 0 (c := ?_) | refine L.load1 1 (c := ?_) | refine L.load1 2 (c := ?_) | refine L.load1 3 (c := ?_) | refine L.load1 4 (c := ?_) | refine L.loadA 0 (c := ?_) | refine L.loadA 1 (c := ?_) | refine L.loadA 2 (c := ?_) | refine L.loadA 3 (c := ?_) | refine L.loadA 4 (c := ?_) | refine L.storeV 0 (c := ?_) | refine L.storeV 1 (c := ?_) | refine L.storeV 2 (c := ?_) | refine L.storeV 3 (c := ?_) | refine L.storeV 4 (c := ?_) | refine L.extract (c := ?_) | refine L.build (c := ?_) | refine L.alloc (c := fun _ => ?_) | refine L.box (c := fun _ => ?_) | refine L.nilCheck (k := ?_) | refine C.yes (h1 := ?_) | refine C.no (h1 := ?_) | refine L.pickT (k := ?_) | refine L.pickF (k := ?_) | refine L.want (k := ?_) | refine L.pass (k := ?_) | refine L.not (c := ?_) | refine L.lenS (c := ?_) | refine L.strNe (c := ?_) | refine L.strEq (c := ?_) | refine L.lenV (c := ?_) | refine C.block ?_ | refine D.blkNormal ?_ | refine C.ret ?_ | refine D.thenRet ?_ | refine D.blkRet ?_ | refine C.exit ?_ | refine D.thenExit ?_ | refine D.blkExit ?_ | refine D.blkOther (h := ?_) | refine C.skip ?_ | refine L.convI (c := ?_) | refine L.makeMap (c := fun _ => ?_) | refine D.any ?_ | refine D.seqR (h := ?_) | refine L.eqA (c := ?_) | refine L.neA (c := ?_) | refine L.funNil (c := ?_) | refine L.eqB (c := ?_) | refine L.neB (c := ?_) | refine L.passU (k := ?_) | refine L.makeFunc (k := ?_) | refine L.buildS (c := fun _ => ?_) | exact D.endsQ | refine QL.fin ?_ | refine C.quiet (h := ?_) | refine C.mixed (h := ?_) | refine QW.fin (h := ?_) | refine QW.load 0 (k := ?_) | refine QW.load 1 (k := ?_) | refine QW.load 2 (k := ?_) | refine QW.load 3 (k := ?_) | refine QW.load 4 (k := ?_) | refine QW.load 5 (k := ?_) | refine QW.loadA 0 (k := ?_) | refine QW.loadA 1 (k := ?_) | refine QW.loadA 2 (k := ?_) | refine QW.loadA 3 (k := ?_) | refine QW.loadA 4 (k := ?_) | refine QW.loadA 5 (k := ?_) | refine QW.store 0 (k := ?_) | refine QW.store 1 (k := ?_) | refine QW.store 2 (k := ?_) | refine QW.store 3 (k := ?_) | refine QW.store 4 (k := ?_) | refine QW.store 5 (k := ?_) | (refine QW.free (v := ?_) (by exact rfl) (by exact rfl) (fun w1 hk1 => ?_) ?_; rotate_left) | refine N.fin (h := ?_) | refine L.assertY (c := ?_) | refine L.assertN (c := ?_) | refine N.one (i := 0) (h := ?_) | refine N.one (i := 1) (h := ?_) | refine N.one (i := 2) (h := ?_) | refine N.one (i := 3) (h := ?_) | refine N.one (i := 4) (h := ?_) | refine N.one (i := 5) (h := ?_) | refine N.one (i := 6) (h := ?_) | refine N.one (i := 7) (h := ?_) | refine N.one (i := 8) (h := ?_) | refine N.one (i := 9) (h := ?_) | refine N.one (i := 10) (h := ?_) | refine N.one (i := 11) (h := ?_) | (refine QL.step (v := ?_) (by exact rfl) (by exact rfl) ?_ ?_; rotate_left))
        · exact D.ret (vs := [.bool true]) (RV.tmp rfl RV.nil) (fun w' hw => PostW.mkD (hit.aj _) hJ' 0 hw rfl (.inl ⟨rfl, rfl, rfl⟩))
        · exact D.ret (vs := [.bool false]) (RV.tmp rfl RV.nil) (fun w' hw => PostW.mkD (hit.ax _) hJ' 0 hw rfl (.inr ⟨rfl, rfl, rfl⟩))
end Go.Proofs.Ytbackpcohkblfaa
