/- Listing: All, ReadAll: what they answer. Conditions: the library's tables and errors as laid. -/
import Derived.Test.YtokcamgipnaoeaaGreatDoorLsH
import Derived.Test.YtokcamgipnaoeaaGreatDoorBuild
set_option linter.unusedVariables false
set_option linter.unusedSimpArgs false
namespace Go.Proofs.YtokcamgipnaoeaaGreatDoor.Ls
open Go Go.RowKit SL Go.Shelf
attribute [local irreducible] SL.L SL.C SL.D SL.N SL.H SL.QL SL.QW SL.QP

def encI (i : Ins) : List Value := i.cells
theorem encI_len (i : Ins) : (encI i).length = 9 := rfl
theorem encI_ones (l : List Ins) : ones (l.flatMap encI) := by
  intro v hv
  obtain ⟨x, _, hv⟩ := List.mem_flatMap.1 hv
  have hv : v ∈ x.cells := hv
  unfold Ins.cells at hv
  simp only [List.mem_cons, List.not_mem_nil, or_false] at hv
  rcases hv with rfl | rfl | rfl | rfl | rfl | rfl | rfl | rfl | rfl <;> rfl
/-- A row's text. -/
def catT (l : List Ins) : List UInt8 := l.flatMap fun i => instT i ++ [10]
def allF (l : List Ins) : Option (List UInt8) := if l.all Ins.chk then some (catT l) else none
def allV : Option (List UInt8) → Value → Hp → Prop
  | some t => two (tx t) (.int .i64 0)
  | none => two (tx []) (.int .i64 2)
theorem trim_len (a p : List UInt8) : (Lib.trimSuffix a p).length ≤ a.length := by
  unfold Lib.trimSuffix
  split
  · rw [List.length_take]; omega
  · exact Nat.le_refl _
theorem instT_len (i : Ins) (h : i.ok) : (instT i).length ≤ 200 := by
  have hoks : ∀ x ∈ opds i, x.ok := fun x hx => by
    obtain ⟨c, _, rfl⟩ := List.mem_map.1 hx
    exact opd1_ok h c
  have hol : (opds i).length ≤ 3 := by unfold opds; rw [List.length_map]; exact shape_len i.op
  have hnl := nameT_len i.op
  have hjl := join_len ((opds i).map Opd.txt) 60 (fun x hx => by obtain ⟨o, ho, rfl⟩ := List.mem_map.1 hx; exact txt_len o (hoks o ho))
  rw [List.length_map] at hjl
  unfold instT
  refine Nat.le_trans (trim_len _ _) ?_
  simp only [List.length_append, List.length_cons, List.length_nil]
  omega
theorem catT_len : ∀ (l : List Ins), (∀ i ∈ l, i.ok) → (catT l).length ≤ l.length * 201
  | [], _ => Nat.le_refl _
  | i :: r, h => by
    have h1 := instT_len i (h i List.mem_cons_self)
    have h2 := catT_len r (fun x hx => h x (List.mem_cons_of_mem _ hx))
    show (instT i ++ [10] ++ catT r).length ≤ _
    simp only [List.length_append, List.length_cons, List.length_nil]
    omega
theorem catT_take {l : List Ins} {k : Nat} {i : Ins} (h : l[k]? = some i) : catT (l.take (k + 1)) = catT (l.take k) ++ (instT i ++ [10]) := by
  unfold catT
  rw [List.take_add_one, h, List.flatMap_append]
  simp
structure Bx where
  k : Nat
  p : Option Addr
  y : OS
set_option maxRecDepth 100000 in
set_option maxHeartbeats 16000000 in
theorem all_S (v : Value) (l : List Ins) (hok : ∀ i ∈ l, i.ok) (hn : l.length ≤ 1000) : Ctr Tryz.prog 10 [v] [] (fun w => Rd w [] v l.length (l.flatMap encI) ∧ Tab w) (allV (allF l)) := by
  refine Ctr.enter Tryz.func10 Tryz.ntmps10 rfl rfl (fun w hr0 => ?_)
  obtain ⟨hr, ht⟩ := hr0
  have sv := hr.1
  obtain ⟨R, hR⟩ : ∃ R, R = allF l := ⟨_, rfl⟩
  rw [← hR]
  repeat (first | refine C.seq ?_ | refine C.region ?_ | refine L.nil ?_ | refine D.seq ?_ | refine L.move (k := ?_) | refine L.assign (k := ?_) | refine L.alloc (c := fun _ => ?_) | refine C.block ?_ | refine L.lenR sv (c := ?_))
  rename_i bb
  refine C.loop (α := Bx) (fun g => g.k ≤ l.length ∧ bP bb g.p ∧ bG (catT (l.take g.k)) g.y ∧ (l.take g.k).all Ins.chk = true) (fun g => [(4, .pointer (some ⟨bb, 0, none⟩)), (9, v), (10, .int .i64 l.length), (11, .int .i64 (g.k : Int))]) (fun g => bHp bb g.p (catT (l.take g.k)) g.y) (fun g => l.length - g.k) ⟨0, none, none⟩
    (fun a w hs => hs.lessE rfl (lk_cons rfl (lk_cons rfl (lk_cons rfl (lk_cons rfl (fun _ _ h => lk_nil h)))))) ⟨Nat.zero_le _, .inl rfl, ⟨osG.nil, by simp [catT]⟩, rfl⟩ ?_
  rintro ⟨k, p, y⟩ ⟨hk, hp, hG, hch⟩
  simp only at hk hp hG hch ⊢
  rcases Nat.lt_or_ge k l.length with hlt | hge
  · have c1 : cm .lss (k : Int) l.length = true := cm_lo (by omega)
    have c2 : ar .add .i64 (k : Int) 1 = ((k + 1 : Nat) : Int) := i64_add (b := 1) (by omega)
    obtain ⟨x, hx⟩ : ∃ x, l[k]? = some x := ⟨_, List.getElem?_eq_getElem hlt⟩
    have hxo := hok x (List.mem_of_getElem? hx)
    have k1 := flat_at encI_len hx
    have k2 : ((l.flatMap encI).drop (k * 9)).take 9 = x.cells := k1.1
    have o1 := hr.2 (by omega)
    have hI := inst_S x hxo
    unfold instR at hI
    have hcl := catT_len (l.take k) (fun i hi => hok i (List.mem_of_mem_take hi))
    rw [List.length_take, Nat.min_eq_left hk] at hcl
    have hil := instT_len x hxo
    cases hc : x.chk with
    | true =>
      rw [if_pos hc] at hI
      have c3 : cm .neq 0 0 = false := rfl
      repeat (first | refine C.seq ?_ | refine C.region ?_ | refine L.nil ?_ | refine D.seq ?_ | refine L.cm (c := ?_) | refine L.loadA 0 (c := ?_) | refine L.storeV 0 (c := ?_) | refine L.alloc (c := fun _ => ?_) | refine C.yes (h1 := ?_) | refine C.block ?_ | refine C.skip ?_ | refine L.indexR sv hlt (c := ?_) | refine L.loadOA o1 (i := k * 9) (ho := by exact rfl) (hi := k1.2) (hcs := k2) (c := ?_))
      refine L.callP [] hI (hpre := fun _ hw => ht.bel hw) (k := ?_)
      rintro u B ⟨rfl, rfl⟩
      rw [hdrop_nil, List.nil_append]
      repeat (first | refine C.seq ?_ | refine C.region ?_ | refine L.nil ?_ | refine D.seq ?_ | refine L.move (k := ?_) | refine L.assign (k := ?_) | refine L.cm (c := ?_) | refine L.extract (c := ?_) | refine C.no (h1 := ?_) | refine C.skip ?_ | refine L.txAdd (c := ?_))
      refine L.callD 1 (writeString_S bb p hp _ y hG ⟨(instT x ++ [10]).toArray⟩ (by show (catT (l.take k)).length + (instT x ++ [10]).length ≤ _; rw [List.length_append, List.length_singleton]; omega)) (k := ?_)
      rintro u B ⟨rfl, y', hG', rfl⟩
      simp only [List.take_succ_cons, List.take_zero, List.take_nil, List.cons_append, List.nil_append]
      repeat (first | refine C.region ?_ | refine L.nil ?_ | refine L.move (k := ?_) | refine L.ar (c := ?_) | refine D.blkNormal ?_ | refine D.seqR (h := ?_))
      have hstep := catT_take hx
      refine D.then_ fun a1 w1 hs => ⟨⟨k + 1, some ⟨bb, 0, none⟩, y'⟩, ⟨hlt, .inr rfl, ?_, ?_⟩, by show l.length - (k + 1) < l.length - k; omega, ?_⟩
      · show bG (catT (l.take (k + 1))) y'; rw [hstep]; exact hG'
      · show (l.take (k + 1)).all Ins.chk = true; rw [List.take_add_one, hx, List.all_append, hch]; simp [hc]
      · show Sat _ _ (bHp bb _ (catT (l.take (k + 1))) y') _ _
        rw [hstep]
        exact hs.lessD 1 rfl (lk_cons rfl (lk_cons rfl (lk_cons rfl (lk_cons rfl (fun _ _ h => lk_nil h)))))
    | false =>
      rw [if_neg (by rw [hc]; decide)] at hI
      have c3 : cm .neq 2 0 = true := rfl
      have hRn : R = none := by
        rw [hR]; unfold allF
        rw [if_neg (fun h => by have := List.all_eq_true.1 h x (List.mem_of_getElem? hx); rw [hc] at this; cases this)]
      rw [hRn]
      repeat (first | refine C.seq ?_ | refine C.region ?_ | refine L.nil ?_ | refine D.seq ?_ | refine L.cm (c := ?_) | refine L.loadA 0 (c := ?_) | refine L.storeV 0 (c := ?_) | refine L.alloc (c := fun _ => ?_) | refine C.yes (h1 := ?_) | refine C.block ?_ | refine C.skip ?_ | refine L.indexR sv hlt (c := ?_) | refine L.loadOA o1 (i := k * 9) (ho := by exact rfl) (hi := k1.2) (hcs := k2) (c := ?_))
      refine L.callP [] hI (hpre := fun _ hw => ht.bel hw) (k := ?_)
      rintro u B ⟨rfl, rfl⟩
      rw [hdrop_nil, List.nil_append]
      repeat (first | refine C.seq ?_ | refine C.region ?_ | refine L.nil ?_ | refine D.seq ?_ | refine L.move (k := ?_) | refine L.assign (k := ?_) | refine L.cm (c := ?_) | refine L.extract (c := ?_) | refine C.yes (h1 := ?_) | refine C.ret ?_ | refine D.thenRet ?_ | refine D.blkRet ?_ | refine L.txAdd (c := ?_))
      exact D.ret (vs := [_, _]) (RV.tmp rfl (RV.tmp rfl RV.nil)) (fun w' hw => Post.mk (is := []) hw List.nodup_nil rfl ⟨rfl, rfl⟩)
  · have c1 : cm .lss (k : Int) l.length = false := cm_lo' (by omega)
    obtain rfl : k = l.length := by omega
    rw [List.take_length] at hG hch ⊢
    have hRs : R = some (catT l) := by rw [hR]; unfold allF; rw [if_pos hch]
    rw [hRs]
    have hcl := catT_len l hok
    repeat (first | refine C.seq ?_ | refine C.region ?_ | refine L.nil ?_ | refine D.seq ?_ | refine L.cm (c := ?_) | refine C.no (h1 := ?_) | refine C.exit ?_ | refine D.thenExit ?_ | refine D.blkExit ?_ | refine D.seqR (h := ?_))
    refine L.callD 0 (string_S bb p _ y hG (by omega)) (k := ?_)
    rintro u B ⟨rfl, rfl⟩
    simp only [List.take_succ_cons, List.take_zero, List.take_nil, List.cons_append, List.nil_append]
    repeat (first | refine L.nil ?_ | refine L.assign (k := ?_) | refine C.ret ?_ | refine D.seqR (h := ?_))
    exact D.ret (vs := [_, _]) (RV.tmp rfl (RV.tmp rfl RV.nil)) (fun w' hw => Post.mk (is := []) hw List.nodup_nil rfl ⟨rfl, rfl⟩)
/-- What ReadAll reads: the row, or none; so many lines were read. -/
def linesF : Nat → List UInt8 → Option (List Ins) × Nat
  | 0, _ => (none, 0)
  | f + 1, s => if s = [] then (some [], 0) else if (Lib.cut s [10]).2.2 then (match readI (Lib.cut s [10]).1 with
    | none => (none, 0)
    | some i => ((linesF f (Lib.cut s [10]).2.1).1.map (i :: ·), (linesF f (Lib.cut s [10]).2.1).2 + 1)) else (none, 0)
def linesV : Option (List Ins) × Nat → Value → Hp → Prop
  | (some l, n) => fun v B => ∃ y, osG 9 l.length (l.flatMap encI) y ∧ v = shut [osV l.length y, .int .i64 (n : Int), .int .i64 0] ∧ B = osC 25 y []
  | (none, n) => fun v B => v = shut [.slice none 0 0, .int .i64 (n : Int), .int .i64 7] ∧ B = []
theorem linesF_more : ∀ (f : Nat) (s : List UInt8), s.length < f → ∀ g, f ≤ g → linesF g s = linesF f s
  | 0, s, h, g, _ => by omega
  | f + 1, s, h, 0, hg => by omega
  | f + 1, s, h, g + 1, hg => by
    unfold linesF
    by_cases h1 : s = []
    · rw [if_pos h1, if_pos h1]
    · rw [if_neg h1, if_neg h1]
      by_cases h2 : (Lib.cut s [10]).2.2 = true
      · rw [if_pos h2, if_pos h2, linesF_more f _ (by have := cut_len3 s [10] (by decide) h2; omega) g (by omega)]
      · rw [if_neg h2, if_neg h2]
set_option maxRecDepth 100000 in
set_option maxHeartbeats 16000000 in
theorem readAll_S (s : List UInt8) (hs : s.length ≤ 100000) : Ctr Tryz.prog 12 [tx s] [] Lw (linesV (linesF (s.length + 1) s)) := by
  obtain ⟨S, hS⟩ : ∃ S, S = s.length := ⟨_, rfl⟩
  obtain ⟨R, hR⟩ : ∃ R, R = linesF (S + 1) s := ⟨_, rfl⟩
  rw [← hS, ← hR]
  have hbig : ∀ x : Nat, x ≤ 200000 → x ≤ maxLen := fun x h => by unfold maxLen; omega
  refine Ctr.enter Tryz.func12 Tryz.ntmps12 rfl rfl (fun w hx => ?_)
  repeat (first | refine C.seq ?_ | refine C.region ?_ | refine L.nil ?_ | refine D.seq ?_ | refine L.assign (k := ?_) | refine C.block ?_)
  refine C.loop (α := (List Ins × OS) × List UInt8) (fun g => osG 9 g.1.1.length (g.1.1.flatMap encI) g.1.2 ∧ g.1.1.length + g.2.length ≤ S ∧ R = ((linesF (S + 1) g.2).1.map (g.1.1 ++ ·), g.1.1.length + (linesF (S + 1) g.2).2))
    (fun g => [(0, tx g.2), (2, osV g.1.1.length g.1.2), (3, .int .i64 (g.1.1.length : Int))]) (fun g => osC 25 g.1.2 []) (fun g => g.2.length) (([], none), s)
    (fun a w hs => hs.lessE rfl (lk_cons rfl (lk_cons rfl (lk_cons rfl (fun _ _ h => lk_nil h))))) ⟨osG.nil, by simp only [List.length_nil]; omega, by rw [hR]; simp only [List.nil_append, List.length_nil, Nat.zero_add]; rw [Option.map_id']⟩ ?_
  rintro ⟨⟨acc, y⟩, r⟩ ⟨hG, hlen, hO⟩
  simp only at hG hlen hO
  dsimp only
  unfold linesF at hO
  have hne := sne_tx r []
  by_cases h0 : r = []
  · rw [decide_eq_true h0] at hne
    rw [if_pos h0] at hO
    simp only [Option.map_some, List.append_nil, Nat.add_zero] at hO
    rw [hO]
    repeat (first | refine C.seq ?_ | refine C.region ?_ | refine L.nil ?_ | refine D.seq ?_ | refine L.move (k := ?_) | refine L.assign (k := ?_) | refine C.no (h1 := ?_) | refine L.strNe (c := ?_) | refine C.ret ?_ | refine C.exit ?_ | refine D.thenExit ?_ | refine D.blkExit ?_ | refine D.seqR (h := ?_))
    exact D.ret (vs := [_, _, _]) (RV.tmp rfl (RV.tmp rfl (RV.tmp rfl RV.nil))) (fun w' hw => Post.mkD 0 hw rfl ⟨y, hG, rfl, rfl⟩)
  · rw [decide_eq_false h0] at hne
    rw [if_neg h0] at hO
    have hC := cut_S r [10] (by omega)
    have hl1 := cut_len1 r [10]
    have hl3 := cut_len3 r [10] (by decide)
    obtain ⟨one, r', has', hcut⟩ : ∃ a b c, Lib.cut r [10] = (a, b, c) := ⟨_, _, _, rfl⟩
    rw [hcut] at hC hl1 hl3 hO
    simp only at hC hl1 hl3 hO
    cases has' with
    | false =>
      simp only [Bool.false_eq_true, if_false, Option.map_none, Nat.add_zero] at hO
      rw [hO]
      repeat (first | refine C.seq ?_ | refine C.region ?_ | refine L.nil ?_ | refine D.seq ?_ | refine L.move (k := ?_) | refine L.assign (k := ?_) | refine L.extract (c := ?_) | refine C.yes (h1 := ?_) | refine L.not (c := ?_) | refine L.strNe (c := ?_) | refine C.block ?_ | refine C.ret ?_ | refine D.thenRet ?_ | refine D.blkRet ?_ | refine C.skip ?_ | refine L.callQ hC (hpre := fun _ hw => hx.bel hw) (k := ?_))
      exact D.ret (vs := [_, _, _]) (RV.tmp rfl (RV.tmp rfl (RV.tmp rfl RV.nil))) (fun w' hw => Post.mk (is := []) hw List.nodup_nil rfl ⟨rfl, rfl⟩)
    | true =>
      have hlt := hl3 rfl
      have hRd := read_I one (by omega)
      have hm1 := hbig (acc.length + 1) (by omega)
      have d1 : ar .add .i64 (acc.length : Int) 1 = ((acc.length + 1 : Nat) : Int) := i64_add (b := 1) (by omega)
      simp only [if_true] at hO
      cases hi : readI one with
      | none =>
        rw [hi] at hO hRd
        simp only [Option.map_none, Nat.add_zero] at hO
        rw [hO]
        have c3 : cm .neq 7 0 = true := rfl
        repeat (first | refine C.seq ?_ | refine C.region ?_ | refine L.nil ?_ | refine D.seq ?_ | refine L.move (k := ?_) | refine L.assign (k := ?_) | refine L.extract (c := ?_) | refine C.yes (h1 := ?_) | refine C.no (h1 := ?_) | refine L.not (c := ?_) | refine L.strNe (c := ?_) | refine C.block ?_ | refine C.skip ?_ | refine L.callQ hC (hpre := fun _ hw => hx.bel hw) (k := ?_))
        refine L.callP [] hRd (hpre := fun _ hw => hx.bel hw) (k := ?_)
        rintro u B ⟨rfl, rfl⟩
        rw [hdrop_nil, List.nil_append]
        repeat (first | refine C.seq ?_ | refine C.region ?_ | refine L.nil ?_ | refine D.seq ?_ | refine L.move (k := ?_) | refine L.assign (k := ?_) | refine L.cm (c := ?_) | refine L.storeV 0 (c := ?_) | refine L.extract (c := ?_) | refine L.alloc (c := fun _ => ?_) | refine C.yes (h1 := ?_) | refine C.ret ?_ | refine D.thenRet ?_ | refine D.blkRet ?_)
        exact D.ret (vs := [_, _, _]) (RV.tmp rfl (RV.tmp rfl (RV.tmp rfl RV.nil))) (fun w' hw => Post.mk (is := []) hw List.nodup_nil rfl ⟨rfl, rfl⟩)
      | some i =>
        rw [hi] at hO hRd
        simp only at hO
        have c3 : cm .neq 0 0 = false := rfl
        have hla : (acc ++ [i]).length = acc.length + 1 := by simp
        have hva : (acc ++ [i]).flatMap encI = acc.flatMap encI ++ i.cells := by rw [List.flatMap_append]; simp [encI]
        repeat (first | refine C.seq ?_ | refine C.region ?_ | refine L.nil ?_ | refine D.seq ?_ | refine L.move (k := ?_) | refine L.assign (k := ?_) | refine L.extract (c := ?_) | refine C.yes (h1 := ?_) | refine C.no (h1 := ?_) | refine L.not (c := ?_) | refine L.strNe (c := ?_) | refine C.block ?_ | refine C.skip ?_ | refine L.callQ hC (hpre := fun _ hw => hx.bel hw) (k := ?_))
        refine L.callP [] hRd (hpre := fun _ hw => hx.bel hw) (k := ?_)
        rintro u B ⟨rfl, rfl⟩
        rw [hdrop_nil, List.nil_append]
        repeat (first | refine C.seq ?_ | refine C.region ?_ | refine L.nil ?_ | refine D.seq ?_ | refine L.move (k := ?_) | refine L.assign (k := ?_) | refine L.cm (c := ?_) | refine L.loadA 0 (c := ?_) | refine L.storeV 0 (c := ?_) | refine L.extract (c := ?_) | refine L.alloc (c := fun _ => ?_) | refine C.no (h1 := ?_) | refine C.skip ?_ | refine L.buildS (c := fun _ => ?_))
        rename_i nb
        --@
        refine L.appendU [_, _] (L2 := []) (y := y) (m := acc.length) (u := .slice (some ⟨nb, 0, none⟩) 1 1) (k := 1) (news := i.cells) hG rfl (fun w hw => Rd.own (hw.holds _ List.mem_cons_self) (by simp) (Nat.le_refl _) 9 rfl) rfl (by have := encI_ones [i]; simpa [encI] using this) hm1 (by omega) (c := fun y' hG' _ => ?_)
        simp only [List.cons_append, List.nil_append]
        repeat (first | refine C.region ?_ | refine L.nil ?_ | refine L.move (k := ?_) | refine L.assign (k := ?_) | refine L.ar (c := ?_) | refine D.blkNormal ?_ | refine D.seqR (h := ?_))
        exact D.then_ fun a1 w1 hs => ⟨((acc ++ [i], y'), r'), ⟨by rw [hla, hva]; exact hG', by simp only; rw [hla]; omega, by
            simp only
            rw [hO, hla, Option.map_map, linesF_more S r' (by omega) (S + 1) (by omega)]
            refine Prod.ext ?_ (by simp only; omega)
            refine congrArg (fun f => Option.map f _) (funext fun q => ?_)
            simp⟩, by simp only; omega, by
            simp only
            rw [hla]
            exact hs.lessD 2 rfl (lk_cons rfl (lk_cons rfl (lk_cons rfl (fun _ _ h => lk_nil h))))⟩
end Go.Proofs.YtokcamgipnaoeaaGreatDoor.Ls
