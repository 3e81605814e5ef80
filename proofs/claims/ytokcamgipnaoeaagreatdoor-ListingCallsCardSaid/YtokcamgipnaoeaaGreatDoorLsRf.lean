/- Listing, the document's answer: Read, All, ReadAll: what they answer. Conditions: numbers are numbers of 64 bits. -/
import Derived.Test.YtokcamgipnaoeaaGreatDoorLsRe
set_option linter.unusedVariables false
set_option linter.unusedSimpArgs false
namespace Go.Proofs.YtokcamgipnaoeaaGreatDoor.Ls
open Go Go.RowKit SL Go.Shelf
attribute [local irreducible] SL.L SL.C SL.D SL.N SL.H SL.QL SL.QW SL.QP

def refF (l : List (List UInt8)) (s : List UInt8) : Nat → Nat → Option Ins
  | 0, _ => none
  | f + 1, op => if (candC op l).chk = true ∧ instT (candC op l) = s then some (candC op l) else refF l s f (op + 1)
def refL (s : List UInt8) : List (List UInt8) := if 0 ≤ find s 32 then splR (s.drop ((find s 32).toNat + 1)) else []
/-- What the document's Read reads. -/
def refI (s : List UInt8) : Option Ins := refF (refL s) s 33 1
theorem wrap_64 (n : Int) : I64' (IntKind.i64.wrap n) := by
  unfold I64'; rw [IntKind.wrap_i64]; omega
theorem numR_64 (s : List UInt8) : I64' (numR s).1 := by
  unfold numR
  split
  · exact i64_0
  · split
    · exact i64_0
    · unfold numE; simp only; split <;> exact wrap_64 _
theorem memR_ok (s : List UInt8) : I64' (memB (memE s).2).2.2 ∧ I64' (memE s).1 := by
  refine ⟨?_, ?_⟩
  · unfold memB
    split
    · split
      · exact numR_64 _
      · exact i64_1
    · exact i64_1
  · unfold memE memA
    split
    · exact numR_64 _
    · exact i64_0
theorem c0_ok (f : Fl) (op : Int) (l : List (List UInt8)) : (c0 f op l).1.ok := by
  unfold c0
  split
  · exact ⟨(memR_ok _).1, (memR_ok _).2, i64_0⟩
  · exact ⟨i64_0, i64_0, i64_0⟩
theorem candC_ok (op : Int) (l : List (List UInt8)) : (candC op l).ok := by
  have h0 := c0_ok (flOf op) op l
  have h1 : (z1 (flOf op) op l).1.ok := by unfold z1 cD; split <;> exact h0
  have h2 : (z2 (flOf op) op l).1.ok := by unfold z2 cS; split <;> exact h1
  have h3 : (z3 (flOf op) op l).1.ok := by unfold z3 cT; split <;> exact h2
  have h4 : (z4 (flOf op) op l).1.ok := by
    unfold z4 cM
    split
    · exact ⟨(memR_ok _).1, (memR_ok _).2, h3.2.2⟩
    · exact h3
  unfold candC cI
  split
  · exact ⟨h4.1, h4.2.1, numR_64 _⟩
  · exact h4
theorem refF_is {l : List (List UInt8)} {s : List UInt8} {i : Ins} : ∀ (f op : Nat), refF l s f op = some i → i.ok ∧ i.chk = true ∧ instT i = s
  | 0, op, h => by cases h
  | f + 1, op, h => by
    unfold refF at h
    split at h
    · rename_i hc; cases h; exact ⟨candC_ok _ _, hc.1, hc.2⟩
    · exact refF_is f (op + 1) h
theorem refF_hit (l : List (List UInt8)) (s : List UInt8) (k : Nat) (h : (candC k l).chk = true ∧ instT (candC k l) = s) : ∀ f op : Nat, op ≤ k → k < op + f → ∃ i, refF l s f op = some i
  | 0, op, h1, h2 => by omega
  | f + 1, op, h1, h2 => by
    unfold refF
    split
    · exact ⟨_, rfl⟩
    · rename_i hn
      refine refF_hit l s k h f (op + 1) ?_ (by omega)
      rcases Nat.lt_or_ge op k with hlt | hge
      · exact hlt
      · exfalso
        obtain rfl : op = k := by omega
        exact hn h
theorem spl_mem (s : List UInt8) : ∀ n i fr : Nat, ∀ x ∈ spl s n i fr, x.length ≤ s.length
  | 0, _, fr, x, hx => by rw [List.mem_singleton.1 hx, List.length_drop]; omega
  | n + 1, i, fr, x, hx => by
    unfold spl at hx
    split at hx
    · split at hx
      · rcases List.mem_cons.1 hx with rfl | hx
        · rw [List.length_take, List.length_drop]; omega
        · exact spl_mem s n _ _ x hx
      · exact spl_mem s n _ _ x hx
    · rw [List.mem_singleton.1 hx, List.length_drop]; omega
theorem refL_len (s : List UInt8) : (refL s).length ≤ s.length + 1 ∧ ∀ x ∈ refL s, x.length ≤ s.length := by
  unfold refL
  split
  · refine ⟨?_, fun x hx => ?_⟩
    · have := spl_len (s.drop ((find s 32).toNat + 1)) (s.drop ((find s 32).toNat + 1)).length 0 0
      unfold splR
      rw [List.length_drop] at this ⊢; omega
    · have := spl_mem _ _ _ _ x hx
      rw [List.length_drop] at this; omega
  · exact ⟨Nat.zero_le _, fun x hx => by cases hx⟩
set_option maxRecDepth 100000 in
set_option maxHeartbeats 16000000 in
theorem rread_S (s : List UInt8) (hs : s.length ≤ 1000) : Ctr Tryz.prog 9 [tx s] [] tt (readV (refI s)) := by
  have hF := find_S s 32 (by omega)
  have hfr := findF_range s 32 s.length 0
  have hfd : findF s 32 s.length 0 = find s 32 := rfl
  rw [hfd] at hfr
  obtain ⟨hll, hlm⟩ := refL_len s
  refine Ctr.enter Tryz.func9 Tryz.ntmps9 rfl rfl (fun w _ => ?_)
  refine C.seq ?_
  repeat (first | refine C.region ?_ | refine L.nil ?_ | refine D.seq ?_ | refine L.assign (k := ?_) | refine L.alloc (c := fun _ => ?_))
  rename_i b2
  refine C.seq ?_
  repeat (first | refine C.region ?_ | refine L.nil ?_ | refine D.seq ?_ | refine L.move (k := ?_) | refine L.assign (k := ?_) | refine L.callQ (hF) (k := ?_))
  refine C.seq ?_
  repeat (first | refine C.region ?_ | refine L.nil ?_ | refine D.seq ?_ | refine L.assign (k := ?_))
  refine C.seq ?_
  unfold refI
  refine C.joinK (fun y : OS => osG 1 (refL s).length ((refL s).map tx) y) (fun y => [(0, tx s), (2, .pointer (some ⟨b2, 0, none⟩)), (5, osV (refL s).length y)]) (fun y => (b2, ob ins0.cells 25) :: osC 9 y []) ?_ ?_
  · rcases hfr with hk | ⟨k, hk, _, hk2, _, _⟩
    · have c1 : cm .geq (-1) 0 = false := rfl
      have hL : refL s = [] := by unfold refL; rw [hk, if_neg (by decide)]
      rw [hL, hk]
      repeat (first | refine C.seq ?_ | refine C.region ?_ | refine L.nil ?_ | refine D.seq ?_ | refine L.move (k := ?_) | refine L.cm (c := ?_) | refine C.no (h1 := ?_) | refine C.skip ?_)
      exact D.then_ fun a1 w1 hs => ⟨none, osG.nil, hs.lessE rfl (lk_cons rfl (lk_cons rfl (lk_cons rfl (fun _ _ h => lk_nil h))))⟩
    · have c1 : cm .geq (k : Int) 0 = true := cm_ge (by omega)
      have d1 : ar .add .i64 (k : Int) 1 = ((k + 1 : Nat) : Int) := i64_add (b := 1) (by omega)
      have hL : refL s = splR (s.drop (k + 1)) := by unfold refL; rw [hk, if_pos (by omega), Int.toNat_natCast]
      rw [hL, hk]
      have q1 : (s.drop (k + 1)).take (s.length - (k + 1)) = s.drop (k + 1) := by rw [List.take_of_length_le]; rw [List.length_drop]; omega
      have hk1 : k + 1 ≤ s.length := by omega
      have hO := roperands_S (s.drop (k + 1)) (by rw [List.length_drop]; omega)
      generalize splR (s.drop (k + 1)) = l at *
      repeat (first | refine L.txCut (a := s) (lo := k + 1) (hi := s.length) (r := s.drop (k + 1)) hk1 (Nat.le_refl _) q1 (c := ?_) | refine C.seq ?_ | refine C.region ?_ | refine L.nil ?_ | refine D.seq ?_ | refine L.move (k := ?_) | refine L.cm (c := ?_) | refine L.ar (c := ?_) | refine C.yes (h1 := ?_))
      refine L.callP [] hO (k := ?_)
      rintro u B ⟨y, hG, rfl, rfl⟩
      rw [hdrop_nil]
      simp only [shut]
      refine L.perm (M' := (b2, ob ins0.cells 25) :: osC 9 y []) (List.perm_append_comm (l₁ := [(b2, ob ins0.cells 25)]) (l₂ := osC 9 y [])) ?_
      repeat (first | refine L.nil ?_ | refine L.assign (k := ?_))
      exact D.then_ fun a1 w1 hs => ⟨y, hG, hs.lessE rfl (lk_cons rfl (lk_cons rfl (lk_cons rfl (fun _ _ h => lk_nil h))))⟩
  intro y hG
  clear hF hfr hfd
  generalize refL s = l at *
  repeat (first | refine C.seq ?_ | refine C.region ?_ | refine L.nil ?_ | refine D.seq ?_ | refine L.assign (k := ?_) | refine C.block ?_)
  obtain ⟨R2, hR2⟩ : ∃ R2, R2 = refF l s 33 1 := ⟨_, rfl⟩
  rw [← hR2]
  refine C.loop (α := Nat) (fun op => 1 ≤ op ∧ op ≤ 34 ∧ R2 = refF l s (34 - op) op)
    (fun op => [(0, tx s), (2, .pointer (some ⟨b2, 0, none⟩)), (5, osV l.length y), (6, .int .i64 (op : Int))]) (fun _ => (b2, ob ins0.cells 25) :: osC 9 y []) (fun op => 34 - op) 1
    (fun a w hs => hs.lessE rfl (lk_cons rfl (lk_cons rfl (lk_cons rfl (lk_cons rfl (fun _ _ h => lk_nil h)))))) ⟨by omega, by omega, hR2⟩ ?_
  rintro op ⟨h1, h34, hcand⟩
  clear hR2
  dsimp only
  rcases Nat.lt_or_ge op 34 with hlt | hge
  · obtain ⟨f, hf⟩ : ∃ f, 34 - op = f + 1 := ⟨33 - op, by omega⟩
    have hf2 : 34 - (op + 1) = f := by omega
    rw [hf] at hcand
    unfold refF at hcand
    have c1 : cm .leq (op : Int) 33 = true := cm_le (by omega)
    have d1 : ar .add .i64 (op : Int) 1 = ((op + 1 : Nat) : Int) := i64_add (b := 1) (by omega)
    have hCd := rcand_S (op : Int) (osV l.length y) l (by omega) (fun x hx => by have := hlm x hx; omega)
    have hok := candC_ok (op : Int) l
    generalize candC (op : Int) l = i at *
    have hI := rinst_S i hok
    by_cases e2 : i.chk = true
    · have hO : outT i = instT i := by unfold outT; rw [if_pos e2]
      rw [hO, e2] at hI
      have c3 : cm .eql (errOf true) 0 = true := rfl
      have heq := seq_tx (instT i) s
      by_cases e3 : instT i = s
      · rw [decide_eq_true e3] at heq
        rw [if_pos ⟨e2, e3⟩] at hcand
        rw [hcand]
        repeat (first | refine C.seq ?_ | refine C.region ?_ | refine L.nil ?_ | refine D.seq ?_ | refine L.move (k := ?_) | refine L.cm (c := ?_) | refine L.loadA 0 (c := ?_) | refine L.storeV 0 (c := ?_) | refine L.alloc (c := fun _ => ?_) | refine C.yes (h1 := ?_) | refine C.block ?_ | refine C.skip ?_ | refine L.callQ hCd (hpre := fun _ hw => hG.rdm (T := 9) hw (fun x hx => List.mem_cons_of_mem _ hx)) (k := ?_))
        refine L.callP [] hI (k := ?_)
        rintro u B ⟨rfl, rfl⟩
        rw [hdrop_nil, List.nil_append]
        repeat (first | refine C.seq ?_ | refine C.region ?_ | refine L.nil ?_ | refine D.seq ?_ | refine L.move (k := ?_) | refine L.assign (k := ?_) | refine L.cm (c := ?_) | refine L.loadA 0 (c := ?_) | refine L.storeV 1 (c := ?_) | refine L.extract (c := ?_) | refine C.yes (h1 := ?_) | refine L.pickT (k := ?_) | refine L.want (k := ?_) | refine L.strEq (c := ?_) | refine C.ret ?_ | refine D.thenRet ?_ | refine D.blkRet ?_)
        refine D.ret (vs := [_, _]) (RV.cellA 1 rfl rfl rfl rfl rfl (RV.tmp rfl RV.nil)) ?_
        intro w' hw; exact Post.mk (is := []) hw List.nodup_nil rfl ⟨rfl, rfl⟩
      · rw [decide_eq_false e3] at heq
        rw [if_neg (fun h => e3 h.2)] at hcand
        repeat (first | refine C.seq ?_ | refine C.region ?_ | refine L.nil ?_ | refine D.seq ?_ | refine L.move (k := ?_) | refine L.cm (c := ?_) | refine L.loadA 0 (c := ?_) | refine L.storeV 0 (c := ?_) | refine L.alloc (c := fun _ => ?_) | refine C.yes (h1 := ?_) | refine C.block ?_ | refine C.skip ?_ | refine L.callQ hCd (hpre := fun _ hw => hG.rdm (T := 9) hw (fun x hx => List.mem_cons_of_mem _ hx)) (k := ?_))
        refine L.callP [] hI (k := ?_)
        rintro u B ⟨rfl, rfl⟩
        rw [hdrop_nil, List.nil_append]
        repeat (first | refine C.seq ?_ | refine C.region ?_ | refine L.nil ?_ | refine D.seq ?_ | refine L.move (k := ?_) | refine L.assign (k := ?_) | refine L.cm (c := ?_) | refine L.ar (c := ?_) | refine L.extract (c := ?_) | refine C.no (h1 := ?_) | refine L.pickT (k := ?_) | refine L.want (k := ?_) | refine L.strEq (c := ?_) | refine D.blkNormal ?_ | refine C.skip ?_)
        exact D.then_ fun a1 w1 hs => ⟨op + 1, ⟨by omega, by omega, by rw [hf2]; exact hcand⟩, by omega, hs.lessD 1 rfl (lk_cons rfl (lk_cons rfl (lk_cons rfl (lk_cons rfl (fun _ _ h => lk_nil h)))))⟩
    · have e2' : i.chk = false := by simpa using e2
      rw [e2'] at hI
      have c3 : cm .eql (errOf false) 0 = false := rfl
      rw [if_neg (fun h => e2 h.1)] at hcand
      repeat (first | refine C.seq ?_ | refine C.region ?_ | refine L.nil ?_ | refine D.seq ?_ | refine L.move (k := ?_) | refine L.cm (c := ?_) | refine L.loadA 0 (c := ?_) | refine L.storeV 0 (c := ?_) | refine L.alloc (c := fun _ => ?_) | refine C.yes (h1 := ?_) | refine C.block ?_ | refine C.skip ?_ | refine L.callQ hCd (hpre := fun _ hw => hG.rdm (T := 9) hw (fun x hx => List.mem_cons_of_mem _ hx)) (k := ?_))
      refine L.callP [] hI (k := ?_)
      rintro u B ⟨rfl, rfl⟩
      rw [hdrop_nil, List.nil_append]
      repeat (first | refine C.seq ?_ | refine C.region ?_ | refine L.nil ?_ | refine D.seq ?_ | refine L.move (k := ?_) | refine L.assign (k := ?_) | refine L.cm (c := ?_) | refine L.ar (c := ?_) | refine L.extract (c := ?_) | refine C.no (h1 := ?_) | refine L.pickF (k := ?_) | refine L.pass (k := ?_) | refine D.blkNormal ?_ | refine C.skip ?_)
      exact D.then_ fun a1 w1 hs => ⟨op + 1, ⟨by omega, by omega, by rw [hf2]; exact hcand⟩, by omega, hs.lessD 1 rfl (lk_cons rfl (lk_cons rfl (lk_cons rfl (lk_cons rfl (fun _ _ h => lk_nil h)))))⟩
  · obtain rfl : op = 34 := by omega
    have c1 : cm .leq ((34 : Nat) : Int) 33 = false := rfl
    have hcn : R2 = none := hcand
    rw [hcn]
    repeat (first | refine C.seq ?_ | refine C.region ?_ | refine L.nil ?_ | refine D.seq ?_ | refine L.move (k := ?_) | refine L.assign (k := ?_) | refine L.cm (c := ?_) | refine L.storeV 0 (c := ?_) | refine L.build (c := ?_) | refine C.no (h1 := ?_) | refine C.ret ?_ | refine C.exit ?_ | refine D.thenExit ?_ | refine D.blkExit ?_ | refine D.seqR (h := ?_))
    refine D.ret (vs := [_, _]) (RV.cellA 0 rfl rfl rfl rfl rfl (RV.tmp rfl RV.nil)) ?_
    intro w' hw; exact Post.mk (is := []) hw List.nodup_nil rfl ⟨rfl, rfl⟩
set_option maxRecDepth 100000 in
set_option maxHeartbeats 16000000 in
theorem rall_S (v : Value) (l : List Ins) (hok : ∀ i ∈ l, i.ok) (hn : l.length ≤ 1000) : Ctr Tryz.prog 11 [v] [] (fun w => Rd w [] v l.length (l.flatMap encI)) (allV (allF l)) := by
  refine Ctr.enter Tryz.func11 Tryz.ntmps11 rfl rfl (fun w hr => ?_)
  have sv := hr.1
  obtain ⟨R, hR⟩ : ∃ R, R = allF l := ⟨_, rfl⟩
  rw [← hR]
  repeat (first | refine C.seq ?_ | refine C.region ?_ | refine L.nil ?_ | refine D.seq ?_ | refine L.assign (k := ?_) | refine C.block ?_)
  refine C.loop (α := Nat) (fun k => k ≤ l.length ∧ (l.take k).all Ins.chk = true) (fun k => [(0, v), (4, tx (catT (l.take k))), (5, .int .i64 (k : Int))]) (fun _ => []) (fun k => l.length - k) 0
    (fun a w hs => hs.lessE rfl (lk_cons rfl (lk_cons rfl (lk_cons rfl (fun _ _ h => lk_nil h))))) ⟨Nat.zero_le _, rfl⟩ ?_
  rintro k ⟨hk, hch⟩
  dsimp only
  rcases Nat.lt_or_ge k l.length with hlt | hge
  · have c1 : cm .lss (k : Int) l.length = true := cm_lo (by omega)
    have c2 : ar .add .i64 (k : Int) 1 = ((k + 1 : Nat) : Int) := i64_add (b := 1) (by omega)
    obtain ⟨x, hx⟩ : ∃ x, l[k]? = some x := ⟨_, List.getElem?_eq_getElem hlt⟩
    have hxo := hok x (List.mem_of_getElem? hx)
    have k1 := flat_at encI_len hx
    have k2 : ((l.flatMap encI).drop (k * 9)).take 9 = x.cells := k1.1
    have o1 := hr.2 (by omega)
    have hI := rinst_S x hxo
    have hcl := catT_len (l.take k) (fun i hi => hok i (List.mem_of_mem_take hi))
    rw [List.length_take, Nat.min_eq_left hk] at hcl
    have hil := instT_len x hxo
    have hst := catT_take hx
    cases hc : x.chk with
    | true =>
      have hO : outT x = instT x := by unfold outT; rw [if_pos hc]
      rw [hO, hc] at hI
      have c3 : cm .neq (errOf true) 0 = false := rfl
      generalize catT (l.take k) = acc at *
      have q1 : acc.length + (instT x).length ≤ 1000000000 := by omega
      repeat (first | refine C.seq ?_ | refine C.region ?_ | refine L.nil ?_ | refine D.seq ?_ | refine L.move (k := ?_) | refine L.cm (c := ?_) | refine C.yes (h1 := ?_) | refine C.block ?_ | refine C.skip ?_ | refine L.lenR sv (c := ?_) | refine L.indexR sv hlt (c := ?_) | refine L.loadOA o1 (i := k * 9) (ho := by exact rfl) (hi := k1.2) (hcs := k2) (c := ?_))
      refine L.callP [] hI (k := ?_)
      rintro u B ⟨rfl, rfl⟩
      rw [hdrop_nil, List.nil_append]
      repeat (first | refine C.seq ?_ | refine C.region ?_ | refine L.nil ?_ | refine D.seq ?_ | refine L.move (k := ?_) | refine L.assign (k := ?_) | refine L.cm (c := ?_) | refine L.ar (c := ?_) | refine L.extract (c := ?_) | refine C.no (h1 := ?_) | refine D.blkNormal ?_ | refine C.skip ?_ | refine L.txAdd (h := q1) (c := ?_) | refine L.txAdd (c := ?_))
      exact D.then_ fun a1 w1 hs => ⟨k + 1, ⟨hlt, by rw [List.take_add_one, hx, List.all_append, hch]; simp [hc]⟩, by omega, by rw [hst, ← List.append_assoc]; exact hs.lessE rfl (lk_cons rfl (lk_cons rfl (lk_cons rfl (fun _ _ h => lk_nil h))))⟩
    | false =>
      rw [hc] at hI
      have c3 : cm .neq (errOf false) 0 = true := rfl
      have hRn : R = none := by
        rw [hR]; unfold allF
        rw [if_neg (fun h => by have := List.all_eq_true.1 h x (List.mem_of_getElem? hx); rw [hc] at this; cases this)]
      rw [hRn]
      repeat (first | refine C.seq ?_ | refine C.region ?_ | refine L.nil ?_ | refine D.seq ?_ | refine L.move (k := ?_) | refine L.cm (c := ?_) | refine C.yes (h1 := ?_) | refine C.block ?_ | refine C.skip ?_ | refine L.lenR sv (c := ?_) | refine L.indexR sv hlt (c := ?_) | refine L.loadOA o1 (i := k * 9) (ho := by exact rfl) (hi := k1.2) (hcs := k2) (c := ?_))
      refine L.callP [] hI (k := ?_)
      rintro u B ⟨rfl, rfl⟩
      rw [hdrop_nil, List.nil_append]
      repeat (first | refine C.seq ?_ | refine C.region ?_ | refine L.nil ?_ | refine D.seq ?_ | refine L.move (k := ?_) | refine L.assign (k := ?_) | refine L.cm (c := ?_) | refine L.extract (c := ?_) | refine C.yes (h1 := ?_) | refine C.ret ?_ | refine D.thenRet ?_ | refine D.blkRet ?_)
      exact D.ret (vs := [_, _]) (RV.tmp rfl (RV.tmp rfl RV.nil)) (fun w' hw => Post.mk (is := []) hw List.nodup_nil rfl ⟨rfl, rfl⟩)
  · have c1 : cm .lss (k : Int) l.length = false := cm_lo' (by omega)
    obtain rfl : k = l.length := by omega
    rw [List.take_length] at hch ⊢
    have hRs : R = some (catT l) := by rw [hR]; unfold allF; rw [if_pos hch]
    rw [hRs]
    repeat (first | refine C.seq ?_ | refine C.region ?_ | refine L.nil ?_ | refine D.seq ?_ | refine L.move (k := ?_) | refine L.assign (k := ?_) | refine L.cm (c := ?_) | refine C.no (h1 := ?_) | refine C.ret ?_ | refine C.exit ?_ | refine D.thenExit ?_ | refine D.blkExit ?_ | refine D.seqR (h := ?_) | refine L.lenR sv (c := ?_))
    exact D.ret (vs := [_, _]) (RV.tmp rfl (RV.tmp rfl RV.nil)) (fun w' hw => Post.mk (is := []) hw List.nodup_nil rfl ⟨rfl, rfl⟩)
end Go.Proofs.YtokcamgipnaoeaaGreatDoor.Ls
