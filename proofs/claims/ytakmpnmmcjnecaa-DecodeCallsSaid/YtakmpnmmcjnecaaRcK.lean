/- The law DecodeCalls' walk. -/
import Derived.Test.YtakmpnmmcjnecaaRcJ
import Derived.Test.YtakmpnmmcjnecaaSepW
import Derived.Test.YtakmpnmmcjnecaaFin
import Derived.Test.YtakmpnmmcjnecaaFrame
set_option linter.unusedVariables false
set_option linter.unusedSimpArgs false
namespace Go.Proofs.Ytakmpnmmcjnecaa
open Go.RowKit Calm SL
attribute [local irreducible] SL.L SL.C SL.D SL.N SL.H SL.QP

theorem split_at' {α : Type} {l : List α} {i : Nat} {a : α} (h : l[i]? = some a) : l = l.take i ++ a :: l.drop (i + 1) := by
  obtain ⟨hi, rfl⟩ := List.getElem?_eq_some_iff.1 h
  rw [← List.drop_eq_getElem_cons hi, List.take_append_drop]
theorem ats_map (l : List (Nat × Ins)) : atsOf l = l.map fun x => .int .i64 (x.1 : Int) := by
  unfold atsOf
  induction l with
  | nil => rfl
  | cons x l ih => rw [List.flatMap_cons, ih]; rfl
theorem ats_at {l : List (Nat × Ins)} {i k : Nat} {x : Ins} (h : l[i]? = some (k, x)) : (atsOf l)[i * 1 + 0]? = some (.int .i64 k) := by
  rw [ats_map, Nat.mul_one, Nat.add_zero, List.getElem?_map, h]; rfl
theorem ins_map (l : List (Nat × Ins)) : insOf l = (l.map (·.2)).flatMap cells9 := by unfold insOf; rw [List.flatMap_map]
set_option maxRecDepth 100000 in
set_option maxHeartbeats 8000000 in
theorem dcalls_many (code : ByteArray) (i : Int) (h : 120 < code.size) : Ctr Try.prog 9 [.string code, .int .i64 i] [] tt (is (.bool true) []) := by
  refine Ctr.enter Try.func9 Try.ntmps9 rfl rfl (fun w _ => ?_)
  have c0 : cm .gtr (code.size : Int) 120 = true := cm_gt (by omega)
  repeat (first | refine C.seq ?_ | refine C.region ?_ | refine L.nil ?_ | refine D.seq ?_ | refine L.move (k := ?_) | refine L.assign (k := ?_) | refine L.cm (c := ?_) | refine C.yes (h1 := ?_) | refine C.no (h1 := ?_) | refine L.not (c := ?_) | refine L.lenS (c := ?_) | refine C.ret ?_ | refine D.thenRet ?_ | refine C.skip ?_ | refine L.callQ (lives_S) (k := ?_))
  refine D.ret (vs := [.bool true]) (RV.tmp rfl RV.nil) (fun w' hw => Post.mk (is := []) hw (by decide) rfl ⟨rfl, rfl⟩)
set_option maxRecDepth 100000 in
set_option maxHeartbeats 8000000 in
theorem dcalls_few (code : ByteArray) (i : Int) (h : code.size ≤ 120) : Ctr Try.prog 9 [.string code, .int .i64 i] [] tt (is (.bool true) []) := by
  have hA := dinstA_S code i (by omega)
  have hB := rinst7A_S code i (by omega)
  generalize iAt code i = X at hA hB
  obtain ⟨x, n, e⟩ := X
  simp only at hA hB
  have hall := all_S code (by omega)
  have hall7 := all7_S code (by omega)
  have hea := leach_S code (by omega)
  have c0 : cm .gtr (code.size : Int) 120 = false := cm_gt' (by omega)
  have hrl := rows_length (bytesOf code) 0
  rw [bytesOf_length] at hrl
  generalize hq : (if endOf (rows (bytesOf code) 0) < code.size then (rdD ((bytesOf code).drop (endOf (rows (bytesOf code) 0)))).2.2 else 0) = e2 at hall hall7
  refine Ctr.enter Try.func9 Try.ntmps9 rfl rfl (fun w _ => ?_)
  repeat (first | refine C.seq ?_ | refine C.region ?_ | refine L.nil ?_ | refine D.seq ?_ | refine L.move (k := ?_) | refine L.assign (k := ?_) | refine L.cm (c := ?_) | refine L.storeV 0 (c := ?_) | refine L.extract (c := ?_) | refine L.alloc (c := fun _ => ?_) | refine C.no (h1 := ?_) | refine L.not (c := ?_) | refine L.lenS (c := ?_) | refine C.skip ?_ | refine L.callQ (lives_S) (k := ?_) | refine L.callQ (hA) (k := ?_) | refine L.callQ (hB) (k := ?_))
  refine L.callP [] hall (by exact rfl) (by exact rfl) (by exact rfl) (by decide) (fun _ _ => trivial) ?_
  rintro v B ⟨y1, hg1, rfl, rfl⟩
  rw [hdrop_nil, sliceV_os hg1, sliceM_os]
  repeat (first | refine C.seq ?_ | refine C.region ?_ | refine L.nil ?_ | refine D.seq ?_ | refine L.move (k := ?_) | refine L.assign (k := ?_) | refine L.extract (c := ?_))
  refine L.callP [] hall7 (by exact rfl) (by exact rfl) (by exact rfl) (by decide) (fun _ _ => trivial) ?_
  rintro v B ⟨y2, hg2, rfl, rfl⟩
  rw [hdrop_nil, sliceV_os hg2, sliceM_os]
  repeat (first | refine C.seq ?_ | refine C.region ?_ | refine L.nil ?_ | refine D.seq ?_ | refine L.move (k := ?_) | refine L.assign (k := ?_) | refine L.extract (c := ?_))
  refine L.callP [] hea (by exact rfl) (by exact rfl) (by exact rfl) (by decide) (fun _ _ => trivial) ?_
  rintro v B ⟨⟨ya, yx⟩, ga, gx, rfl, rfl⟩
  rw [hdrop_nil]
  simp only at ga gx
  rename_i b5 b8
  refine L.base _ (M' := []) (List.append_nil _).symm (fun w1 h1 => ?_)
  have r1 := (sliceG_os hg1).rdm (T := 25) h1 (fun z hz => by simp [hz])
  have r2 := (sliceG_os hg2).rdm (T := 25) h1 (fun z hz => by simp [hz])
  have ra := ga.rdm (T := 3) h1 (fun z hz => by simp [hz])
  have rx := gx.rdm (T := 25) h1 (fun z hz => by simp [hz])
  have sa := ra.1
  have hk9 : (([.int .i64 x.op, .int .i64 x.d, .int .i64 x.s, .int .i64 x.t, .int .i64 x.mb, .int .i64 x.mi, .int .i64 x.ms, .int .i64 x.md, .int .i64 x.imm] : List Value).drop 0).take 9 = [.int .i64 x.op, .int .i64 x.d, .int .i64 x.s, .int .i64 x.t, .int .i64 x.mb, .int .i64 x.mi, .int .i64 x.ms, .int .i64 x.md, .int .i64 x.imm] := rfl
  have ob8 := Old.own (h1.holds (b8, ob [.int .i64 x.op, .int .i64 x.d, .int .i64 x.s, .int .i64 x.t, .int .i64 x.mb, .int .i64 x.mi, .int .i64 x.ms, .int .i64 x.md, .int .i64 x.imm] 25) (by simp)) (A := []) (by simp) _ List.take_length
  have ob5 := Old.own (h1.holds (b5, ob [.int .i64 x.op, .int .i64 x.d, .int .i64 x.s, .int .i64 x.t, .int .i64 x.mb, .int .i64 x.mi, .int .i64 x.ms, .int .i64 x.md, .int .i64 x.imm] 25) (by simp)) (A := []) (by simp) _ List.take_length
  have bk : ∀ M2 w', At w1 (keys []) M2 w' → At w [] M2 w' := fun M2 w' hw => At.back (by rw [List.append_nil]; exact h1) hw
  have sx := rx.1
  have hxl : ((rows (bytesOf code) 0).map (·.2)).length = (rows (bytesOf code) 0).length := by simp
  have rx2 : Rd w1 [] (osV (rows (bytesOf code) 0).length yx) ((rows (bytesOf code) 0).map (·.2)).length (((rows (bytesOf code) 0).map (·.2)).flatMap cells9) := by
    have key : ∀ m, m = (rows (bytesOf code) 0).length → Rd w1 [] (osV (rows (bytesOf code) 0).length yx) m (insOf (rows (bytesOf code) 0)) := by rintro _ rfl; exact rx
    have := key _ hxl
    rwa [ins_map] at this
  have k5 : eqK [.int .i64, .int .i64, .int .i64, .int .i64, .int .i64, .int .i64, .int .i64, .int .i64, .int .i64] [.int .i64 x.op, .int .i64 x.d, .int .i64 x.s, .int .i64 x.t, .int .i64 x.mb, .int .i64 x.mi, .int .i64 x.ms, .int .i64 x.md, .int .i64 x.imm] [.int .i64 x.op, .int .i64 x.d, .int .i64 x.s, .int .i64 x.t, .int .i64 x.mb, .int .i64 x.mi, .int .i64 x.ms, .int .i64 x.md, .int .i64 x.imm] = some true := eqK_inst x
  have d1 : cm .neq (n : Int) n = false := by show ((n : Int) != n) = false; simp
  have d2 : cm .neq e e = false := by show (e != e) = false; simp
  have d3 : cm .neq e2 e2 = false := by show (e2 != e2) = false; simp
  have d4 : cm .neq (endOf (rows (bytesOf code) 0) : Int) (endOf (rows (bytesOf code) 0)) = false := by show ((endOf (rows (bytesOf code) 0) : Int) != endOf (rows (bytesOf code) 0)) = false; simp
  have hS1 := sameR_S (osV ((rows (bytesOf code) 0).map (·.2)).length y1) (osV ((rows (bytesOf code) 0).map (·.2)).length y2) ((rows (bytesOf code) 0).map (·.2)) (by omega)
  have hS2 := sameR_S (osV (rows (bytesOf code) 0).length yx) (osV ((rows (bytesOf code) 0).map (·.2)).length y2) ((rows (bytesOf code) 0).map (·.2)) (by omega)
  simp only
  repeat (first | refine C.seq ?_ | refine C.region ?_ | refine L.nil ?_ | refine D.seq ?_ | refine L.move (k := ?_) | refine L.assign (k := ?_) | refine L.cm (c := ?_) | refine L.extract (c := ?_) | refine C.no (h1 := ?_) | refine L.pickF (k := ?_) | refine L.want (k := ?_) | refine L.not (c := ?_) | refine C.block ?_ | refine C.skip ?_ | refine D.seqR (h := ?_) | refine L.neA (c := ?_) | refine L.callQ hS1 (hpre := fun w hw => ⟨r1.at hw, r2.at hw⟩) (k := ?_) | refine L.callQ hS2 (hpre := fun w hw => ⟨rx2.at hw, r2.at hw⟩) (k := ?_) | refine L.loadOA ob8 (i := 0) (ho := rfl) (hi := Nat.le_refl 9) (hcs := hk9) (c := ?_) | refine L.loadOA ob5 (i := 0) (ho := rfl) (hi := Nat.le_refl 9) (hcs := hk9) (c := ?_))
  refine C.loop (α := Nat) (fun j => j ≤ (rows (bytesOf code) 0).length) (fun j => [(15, .int .i64 (endOf (rows (bytesOf code) 0))), (17, osV (rows (bytesOf code) 0).length ya), (18, osV (rows (bytesOf code) 0).length yx), (20, .int .i64 (endAt 0 ((rows (bytesOf code) 0).take j))), (21, .int .i64 j)]) (fun _ => []) (fun j => (rows (bytesOf code) 0).length - j) 0
    (fun a w hs => hs.lessE rfl (lk_cons rfl (lk_cons rfl (lk_cons rfl (lk_cons rfl (lk_cons rfl (fun _ _ h => lk_nil h))))))) (Nat.zero_le _) ?_
  intro j hj
  rcases Nat.lt_or_ge j (rows (bytesOf code) 0).length with hlt | hge
  · have c1 : cm .lss (j : Int) (rows (bytesOf code) 0).length = true := cm_lo (by omega)
    obtain ⟨⟨k, z⟩, hz⟩ : ∃ z, (rows (bytesOf code) 0)[j]? = some z := ⟨_, List.getElem?_eq_getElem hlt⟩
    have hsplit := split_at' hz
    obtain ⟨_, hk, _, hok, hchk, _, hat_⟩ := rows_at ((rows (bytesOf code) 0).take j) _ _ k z _ (bytes_all code) hsplit
    rw [bytesOf_length, Nat.sub_zero] at hk
    have hS := rsize_S z hok
    rw [out_size hchk] at hS
    have o1 := ra.2 (by omega)
    have o2 := rx.2 (by omega)
    have hx9 : ((rows (bytesOf code) 0).map (·.2))[j]? = some z := by rw [List.getElem?_map, hz]; rfl
    obtain ⟨ha, hal⟩ := flat9_at hx9
    rw [← ins_map] at ha hal
    have c2 : ar .add .i64 (j : Int) 1 = ((j + 1 : Nat) : Int) := wrap_nat (by omega)
    have c3 : ar .add .i64 (endAt 0 ((rows (bytesOf code) 0).take j) : Int) z.enc.length = ((endAt 0 ((rows (bytesOf code) 0).take j) + z.enc.length : Nat) : Int) := wrap_nat (by have h2 := (Ins.enc_bytes hchk).2.2; omega)
    have c4 : cm .neq (k : Int) (endAt 0 ((rows (bytesOf code) 0).take j)) = false := by rw [← hat_]; show ((k : Int) != k) = false; simp
    have c5 : endAt 0 ((rows (bytesOf code) 0).take (j + 1)) = endAt 0 ((rows (bytesOf code) 0).take j) + z.enc.length := by
      rw [List.take_add_one, hz, ← hat_]; exact endOf_snoc _ _
    repeat' (first | refine C.seq ?_ | refine C.region ?_ | refine L.nil ?_ | refine D.seq ?_ | refine L.move (k := ?_) | refine L.assign (k := ?_) | refine L.cm (c := ?_) | refine L.ar (c := ?_) | refine C.yes (h1 := ?_) | refine C.no (h1 := ?_) | refine C.block ?_ | refine D.blkNormal ?_ | refine C.skip ?_ | refine L.callQ (hS) (k := ?_) | refine L.lenR sa (c := ?_) | refine L.indexR sa hlt (c := ?_) | refine L.indexR sx hlt (c := ?_) | refine L.loadF o1 (ats_at hz) (c := ?_) | refine L.loadOA o2 (i := j * 9) (ho := rfl) (hi := hal) (hcs := ha) (c := ?_))
    exact D.then_ fun a1 w2 hs => ⟨j + 1, by omega, by omega, hs.lessE rfl (lk_cons rfl (lk_cons rfl (lk_cons rfl (lk_cons (by rw [c5]; rfl) (lk_cons rfl (fun _ _ h => lk_nil h))))))⟩
  · obtain rfl : j = (rows (bytesOf code) 0).length := by omega
    have c1 : cm .lss ((rows (bytesOf code) 0).length : Int) (rows (bytesOf code) 0).length = false := cm_lo' (by omega)
    have c2 : cm .eql (endOf (rows (bytesOf code) 0) : Int) (endOf (rows (bytesOf code) 0)) = true := cm_yes rfl
    rw [List.take_length]
    repeat' (first | refine C.seq ?_ | refine C.region ?_ | refine L.nil ?_ | refine D.seq ?_ | refine L.move (k := ?_) | refine L.assign (k := ?_) | refine L.cm (c := ?_) | refine C.no (h1 := ?_) | refine C.ret ?_ | refine C.exit ?_ | refine D.thenExit ?_ | refine D.blkExit ?_ | refine L.lenR sa (c := ?_))
    refine D.ret (vs := [.bool true]) (RV.tmp rfl RV.nil) (fun w' hw => Post.mk (is := []) (bk _ _ hw) (by decide) rfl ⟨rfl, rfl⟩)
theorem dcalls_walk (code : ByteArray) (i : Int) (he : (Lit.int .i64 i).wf = true) (w : World) : Calls Try.prog 9 #[.string code, .int .i64 i] w fun e w' => e = .returned (.bool true) ∧ Below w.heap.size w w' := by
  by_cases h : 120 < code.size
  · exact (dcalls_many code i h).true w trivial
  · exact (dcalls_few code i (by omega)).true w trivial
end Go.Proofs.Ytakmpnmmcjnecaa
