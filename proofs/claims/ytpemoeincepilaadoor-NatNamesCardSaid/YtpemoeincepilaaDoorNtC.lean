/- nat.pairs: limbs of two naturals, side by side, one by one. Conditions: at most a million limbs. -/
import Derived.Test.YtpemoeincepilaaDoorNtB
import Derived.Test.YtpemoeincepilaaDoorSepM2
set_option linter.unusedVariables false
set_option linter.unusedSimpArgs false
namespace Go.Proofs.YtpemoeincepilaaDoor.Nt
open Go Go.RowKit SL
attribute [local irreducible] SL.L SL.C SL.D SL.N SL.H SL.QL SL.QW SL.QP

theorem at_S (l : List Nat) (hl : l.length ≤ 1000000) (v : Value) (i : Nat) : Ctr Tryd.prog 69 [v, .int .i64 (i : Int)] [] (fun w => RdN w [] v l) (is (.int .u64 (lmb l i : Int)) []) := by
  refine Ctr.enter Tryd.func69 Tryd.ntmps69 rfl rfl (fun w hr => ?_)
  have sv := hr.1
  rcases Nat.lt_or_ge i l.length with h | h
  · have c1 : cm .lss (i : Int) l.length = true := cm_lo (by omega)
    have o0 := hr.2 (by omega)
    have hg := u64s_get (get_lmb h)
    repeat (first | refine C.seq ?_ | refine C.region ?_ | refine L.nil ?_ | refine D.seq ?_ | refine L.move (k := ?_) | refine L.assign (k := ?_) | refine L.cm (c := ?_) | refine C.yes (h1 := ?_) | refine C.ret ?_ | refine D.thenRet ?_ | refine L.lenR sv (c := ?_) | refine L.indexR sv h (c := ?_) | refine L.loadF o0 hg (ho := by simp) (c := ?_))
    (refine D.ret (vs := [_]) (RV.tmp rfl RV.nil) ?_; intro w' hw; exact Post.mk (is := []) hw List.nodup_nil rfl ⟨rfl, rfl⟩)
  · have c1 : cm .lss (i : Int) l.length = false := cm_lo' (by omega)
    rw [lmb_out h]
    repeat (first | refine C.seq ?_ | refine C.region ?_ | refine L.nil ?_ | refine D.seq ?_ | refine L.move (k := ?_) | refine L.assign (k := ?_) | refine L.cm (c := ?_) | refine C.no (h1 := ?_) | refine C.ret ?_ | refine C.skip ?_ | refine L.lenR sv (c := ?_))
    (refine D.ret (vs := [_]) (RV.tmp rfl RV.nil) ?_; intro w' hw; exact Post.mk (is := []) hw List.nodup_nil rfl ⟨rfl, rfl⟩)
theorem pairs_S (va vb : Value) (na nb n : Nat) (ha : SlV va na) (hb : SlV vb nb) : Ctr Tryd.prog 54 [va, vb, .int .i64 (n : Int)] [] tt (fun u B => ∃ ba bb bn bf, u = .func (.func 70) #[] #[.pointer (some ⟨bn, 0, none⟩), .pointer (some ⟨bf, 0, none⟩), .pointer (some ⟨ba, 0, none⟩), .pointer (some ⟨bb, 0, none⟩)] ∧
    B = [(bf, ob [.func (.func 69) #[] #[]] 78), (bn, ob [.int .i64 (n : Int)] 3), (bb, ob [vb] 23), (ba, ob [va] 23)]) := by
  obtain ⟨pa, ca, rfl, _⟩ := ha
  obtain ⟨pb, cb, rfl, _⟩ := hb
  refine Ctr.enter Tryd.func54 Tryd.ntmps54 rfl rfl (fun w _ => ?_)
  repeat (first | refine C.seq ?_ | refine C.region ?_ | refine L.nil ?_ | refine D.seq ?_ | refine L.assign (k := ?_) | refine L.storeV 0 (c := ?_) | refine L.alloc (c := fun _ => ?_) | refine L.box (c := fun _ => ?_) | refine C.ret ?_ | refine L.makeFunc (k := ?_) | refine L.makeFunc (by exact rfl) (by exact rfl) (by exact rfl) ?_)
  refine D.ret (vs := [_]) (RV.tmp rfl RV.nil) ?_
  intro w' hw
  exact Post.mk (is := [0, 1, 2, 3]) hw (by decide) rfl ⟨_, _, _, _, rfl, rfl⟩
def encP (a b : List Nat) (i : Nat) : List Value := [.int .u64 (lmb a i : Int), .int .u64 (lmb b i : Int)]
set_option maxRecDepth 100000 in
set_option maxHeartbeats 4000000 in
theorem pairs2_seq (a b : List Nat) (hla : a.length ≤ 1000000) (hlb : b.length ≤ 1000000) (n : Nat) (hn : n ≤ 1000001) (va vb : Value) (w : World) (ba bb bn bf : Nat) (hnd : [bf, bn, bb, ba].Nodup)
    (hB : ∀ x ∈ [(bf, ob [.func (.func 69) #[] #[]] 78), (bn, ob [.int .i64 (n : Int)] 3), (bb, ob [vb] 23), (ba, ob [va] 23)], w.heap[x.1]? = some x.2)
    (A : List Nat) (ra : RdN w A va a) (rb : RdN w A vb b) (Bk : List Nat) (hBk : ∀ x ∈ [bf, bn, bb, ba], x ∉ Bk) (hA : ∀ k ∈ Bk, k ∈ A) (hbA : ∀ x ∈ [bf, bn, bb, ba], x ∈ A) :
    SeqV Tryd.prog 70 [.pointer (some ⟨bn, 0, none⟩), .pointer (some ⟨bf, 0, none⟩), .pointer (some ⟨ba, 0, none⟩), .pointer (some ⟨bb, 0, none⟩)].toArray (fun x => (encP a b x).toArray) (Kpr w Bk) (fun pre x => x = pre.length ∧ x < n) (fun xs => xs.length = n) (fun pre => pre.length ≤ n) w := by
  have hsa := ra.1
  obtain ⟨pa, ca, rfl, _⟩ := hsa
  have hsb := rb.1
  obtain ⟨pb, cb, rfl, _⟩ := hsb
  refine Seq.enterK (Bx := [(bf, ob [.func (.func 69) #[] #[]] 78), (bn, ob [.int .i64 (n : Int)] 3), (bb, ob [.slice pb b.length cb] 23), (ba, ob [.slice pa a.length ca] 23)]) Tryd.func70 Tryd.ntmps70 rfl rfl hnd hB (fun x hx => hBk x.1 (by simpa [keys] using List.mem_map_of_mem (f := Prod.fst) hx)) (fun l' J Jx W hit h0 hK0 => ?_)
  have notin : ∀ {v : Value} {l : List Nat}, RdN w A v l → 0 < l.length → sB v ∉ [bf, bn, bb, ba] := fun h hn hm => (h.2 hn).2.1 (hbA _ hm)
  have ra0 : RdN W [bf, bn, bb, ba] (.slice pa a.length ca) a := ra.kept (fun _ o ho => hK0 _ o ho) (notin ra)
  have rb0 : RdN W [bf, bn, bb, ba] (.slice pb b.length cb) b := rb.kept (fun _ o ho => hK0 _ o ho) (notin rb)
  repeat (first | refine C.seq ?_ | refine C.region ?_ | refine L.nil ?_ | refine D.seq ?_ | refine L.move (k := ?_) | refine L.load1 1 (c := ?_) | refine C.block ?_)
  refine C.loopS (α := List Nat × World) (fun x => Jb J [(bf, ob [.func (.func 69) #[] #[]] 78), (bn, ob [.int .i64 (n : Int)] 3), (bb, ob [.slice pb b.length cb] 23), (ba, ob [.slice pa a.length ca] 23)] x.1 x.2 ∧ x.1.length ≤ n ∧ RdN x.2 [bf, bn, bb, ba] (.slice pa a.length ca) a ∧ RdN x.2 [bf, bn, bb, ba] (.slice pb b.length cb) b)
    (fun x => { w0 := x.2, A := [bf, bn, bb, ba], n := 23 }) (fun x => [(0, .func (.yield l') #[] #[]), (1, .pointer (some ⟨bn, 0, none⟩)), (2, .pointer (some ⟨bf, 0, none⟩)), (3, .pointer (some ⟨ba, 0, none⟩)), (4, .pointer (some ⟨bb, 0, none⟩)), (7, .int .i64 (n : Int)), (8, .int .i64 x.1.length)])
    (fun _ => [(bf, ob [.func (.func 69) #[] #[]] 78), (bn, ob [.int .i64 (n : Int)] 3), (bb, ob [.slice pb b.length cb] 23), (ba, ob [.slice pa a.length ca] 23)]) (fun x => n - x.1.length) ([], W) (fun _ => rfl)
    (fun a w hs => hs.less (is := [0, 1, 2, 3]) (by decide) rfl (lk_cons rfl (lk_cons rfl (lk_cons rfl (lk_cons rfl (lk_cons rfl (lk_cons rfl (lk_cons rfl (fun _ _ h => lk_nil h))))))))) ⟨h0, Nat.zero_le _, ra0, rb0⟩ ?_
  rintro ⟨pre, V⟩ ⟨hJ, hpl, hRa, hRb⟩
  simp only at hJ hpl hRa hRb ⊢
  rcases Nat.lt_or_ge pre.length n with hlt | hge
  · have c1 : cm .lss (pre.length : Int) n = true := cm_lo (by omega)
    have c2 : ar .add .i64 (pre.length : Int) 1 = ((pre.length + 1 : Nat) : Int) := wrap_nat (by omega)
    have hSa := at_S a hla (.slice pa a.length ca) pre.length
    have hSb := at_S b hlb (.slice pb b.length cb) pre.length
    repeat (first | refine C.seq ?_ | refine C.region ?_ | refine L.nil ?_ | refine D.seq ?_ | refine L.move (k := ?_) | refine L.assign (k := ?_) | refine L.cm (c := ?_) | refine C.yes (h1 := ?_) | refine C.block ?_ | refine C.skip ?_)
    refine C.quietT 9 11 (h := ?_)
    repeat' (first | refine L.nil ?_ | refine L.move (k := ?_) | refine L.load1 0 (c := ?_) | refine L.load1 2 (c := ?_) | refine L.load1 3 (c := ?_) | refine D.any ?_ | exact D.endsQ | refine QL.fin ?_ | refine N.one (i := 9) (h := ?_) | (refine QL.step (v := ?_) (by exact rfl) (by exact rfl) ?_ ?_; rotate_left) | (refine L.callD 4 hSa (hpre := fun w hw => hRa.at hw) (k := ?_); rintro v B ⟨rfl, rfl⟩) | (refine L.callD 4 hSb (hpre := fun w hw => hRb.at hw) (k := ?_); rintro v B ⟨rfl, rfl⟩))
    refine L.yieldK hit pre.length [0, 1, 2, 3] hJ ⟨rfl, hlt⟩ (by exact rfl) (by exact rfl) (by exact rfl) (by exact rfl) (by exact rfl) (by exact rfl) (fun W' hJ' hK => ?_) (fun W' hJ' => ?_)
    · have kp : ∀ {v : Value} {l : List Nat}, RdN w A v l → RdN V [bf, bn, bb, ba] v l → RdN W' [bf, bn, bb, ba] v l := fun h h2 => h2.kept (fun hn o ho => hK _ o (h.2 hn).1 (fun hm => (h.2 hn).2.1 (hA _ hm)) (by simpa [keys] using notin h hn) ho) (notin h)
      repeat (first | refine D.anyR (h := ?_) | refine C.region ?_ | refine L.nil ?_ | refine L.move (k := ?_) | refine L.ar (c := ?_) | refine C.no (h1 := ?_) | refine L.not (c := ?_) | refine D.blkNormal ?_ | refine C.skip ?_ | refine D.seqR (h := ?_) | refine N.fin (h := ?_) | refine N.one (i := 10) (h := ?_))
      refine D.then_ fun a1 w1 hs => ⟨(pre ++ [pre.length], W'), ⟨hJ', by simp only [List.length_append, List.length_singleton]; omega, kp ra hRa, kp rb hRb⟩, by simp only [List.length_append, List.length_singleton]; omega, ?_⟩
      have e : ((pre ++ [pre.length]).length : Int) = ((pre.length + 1 : Nat) : Int) := by simp
      simp only [e]
      exact hs.less (is := [0, 1, 2, 3]) (by decide) rfl (lk_cons rfl (lk_cons rfl (lk_cons rfl (lk_cons rfl (lk_cons rfl (lk_cons rfl (lk_cons rfl (fun _ _ h => lk_nil h))))))))
    · repeat (first | refine D.anyR (h := ?_) | refine L.nil ?_ | refine C.yes (h1 := ?_) | refine L.not (c := ?_) | refine C.ret ?_ | refine D.thenRet ?_ | refine D.blkRet ?_ | refine D.seqR (h := ?_) | refine N.fin (h := ?_) | refine N.one (i := 10) (h := ?_))
      exact D.ret (vs := []) RV.nil (fun w1 hw => ⟨⟨_, rfl⟩, .inr ⟨_, by simp only [List.length_append, List.length_singleton]; omega, hit.sx _ _ _ hJ' (At.keeps hw)⟩⟩)
  · have c1 : cm .lss (pre.length : Int) n = false := cm_lo' (by omega)
    repeat (first | refine C.seq ?_ | refine C.region ?_ | refine L.nil ?_ | refine D.seq ?_ | refine L.cm (c := ?_) | refine C.no (h1 := ?_) | refine C.exit ?_ | refine D.thenExit ?_ | refine D.blkExit ?_)
    exact D.fin (vs := []) RV.nil (fun w1 hw => ⟨⟨_, rfl⟩, .inl ⟨_, (by omega : pre.length = n), hit.sj _ _ _ hJ.1 (hw.keeps0 hJ.2 (is := [0, 1, 2, 3]) rfl rfl)⟩⟩)
end Go.Proofs.YtpemoeincepilaaDoor.Nt
