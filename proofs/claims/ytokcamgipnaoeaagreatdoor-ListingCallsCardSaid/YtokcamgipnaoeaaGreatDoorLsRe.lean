/- Listing, the document's answer: operands, candidate: what they answer. No condition. -/
import Derived.Test.YtokcamgipnaoeaaGreatDoorLsRc
import Derived.Test.YtokcamgipnaoeaaGreatDoorLsRd
set_option linter.unusedVariables false
set_option linter.unusedSimpArgs false
namespace Go.Proofs.YtokcamgipnaoeaaGreatDoor.Ls
open Go Go.RowKit SL Go.Shelf
attribute [local irreducible] SL.L SL.C SL.D SL.N SL.H SL.QL SL.QW SL.QP

/-- The parts of a text, cut at each comma with a blank behind it. -/
def spl (s : List UInt8) : Nat → Nat → Nat → List (List UInt8)
  | 0, _, fr => [s.drop fr]
  | n + 1, i, fr => if i + 1 < s.length then (if s[i]? = some 44 ∧ s[i + 1]? = some 32 then ((s.drop fr).take (i - fr)) :: spl s n (i + 1) (i + 2) else spl s n (i + 1) fr) else [s.drop fr]
def splR (s : List UInt8) : List (List UInt8) := spl s s.length 0 0
theorem spl_len (s : List UInt8) : ∀ n i fr : Nat, (spl s n i fr).length ≤ n + 1
  | 0, _, _ => Nat.le_refl _
  | n + 1, i, fr => by
    unfold spl
    split
    · split
      · have := spl_len s n (i + 1) (i + 2); rw [List.length_cons]; omega
      · have := spl_len s n (i + 1) fr; omega
    · simp
def txR (l : List (List UInt8)) : Value → Hp → Prop := fun v B => ∃ y, osG 1 l.length (l.map tx) y ∧ v = shut [osV l.length y] ∧ B = osC 9 y []
set_option maxRecDepth 100000 in
set_option maxHeartbeats 16000000 in
theorem roperands_S (s : List UInt8) (hs : s.length ≤ 100000) : Ctr Tryz.prog 34 [tx s] [] tt (txR (splR s)) := by
  obtain ⟨R, hR⟩ : ∃ R, R = splR s := ⟨_, rfl⟩
  have hRl : R.length ≤ s.length + 1 := by rw [hR]; exact spl_len s s.length 0 0
  rw [← hR]
  unfold splR at hR
  refine Ctr.enter Tryz.func34 Tryz.ntmps34 rfl rfl (fun w _ => ?_)
  repeat (first | refine C.seq ?_ | refine C.region ?_ | refine L.nil ?_ | refine D.seq ?_ | refine L.assign (k := ?_) | refine C.block ?_)
  have hbig : ∀ x : Nat, x ≤ 200002 → x ≤ maxLen := fun x h => by unfold maxLen; omega
  refine C.loop (α := (List (List UInt8) × OS) × (Nat × Nat)) (fun g => osG 1 g.1.1.length (g.1.1.map tx) g.1.2 ∧ g.2.1 ≤ s.length ∧ g.1.1.length ≤ g.2.1 ∧ (g.2.2 ≤ g.2.1 ∨ (g.2.2 = g.2.1 + 1 ∧ s[g.2.1]? = some 32)) ∧ R = g.1.1 ++ spl s (s.length - g.2.1) g.2.1 g.2.2)
    (fun g => [(0, tx s), (3, osV g.1.1.length g.1.2), (4, .int .i64 (g.2.2 : Int)), (5, .int .i64 (g.2.1 : Int))]) (fun g => osC 9 g.1.2 []) (fun g => s.length - g.2.1) (([], none), (0, 0))
    (fun a w hs => hs.lessE rfl (lk_cons rfl (lk_cons rfl (lk_cons rfl (lk_cons rfl (fun _ _ h => lk_nil h)))))) ⟨osG.nil, Nat.zero_le _, Nat.le_refl _, .inl (Nat.le_refl _), by simp only [List.nil_append]; exact hR⟩ ?_
  rintro ⟨⟨acc, y⟩, i, fr⟩ ⟨hG, hi, hal, hfr, hO⟩
  simp only at hG hi hal hfr hO
  dsimp only
  clear hR
  have d1 : ar .add .i64 (i : Int) 1 = ((i + 1 : Nat) : Int) := i64_add (b := 1) (by omega)
  rcases Nat.lt_or_ge (i + 1) s.length with hlt | hge
  · have c1 : cm .lss ((i + 1 : Nat) : Int) (s.length : Int) = true := cm_lo (by omega)
    obtain ⟨f, hf⟩ : ∃ f, s.length - i = f + 1 := ⟨s.length - i - 1, by omega⟩
    have hf2 : s.length - (i + 1) = f := by omega
    rw [hf] at hO
    unfold spl at hO
    rw [if_pos hlt] at hO
    obtain ⟨x, hx⟩ : ∃ x, s[i]? = some x := ⟨_, List.getElem?_eq_getElem (by omega)⟩
    obtain ⟨z, hz⟩ : ∃ z, s[i + 1]? = some z := ⟨_, List.getElem?_eq_getElem hlt⟩
    rw [hx, hz] at hO
    rw [hx] at hfr
    by_cases h1 : x = 44
    · have c2 : cm .eql (x.toNat : Int) 44 = true := by rw [h1]; rfl
      by_cases h2 : z = 32
      · have c3 : cm .eql (z.toNat : Int) 32 = true := by rw [h2]; rfl
        have hfi : fr ≤ i := by
          rcases hfr with h | ⟨_, h⟩
          · exact h
          · rw [h1] at h; cases h
        rw [if_pos ⟨by rw [h1], by rw [h2]⟩] at hO
        have d2 : ar .add .i64 (i : Int) 2 = ((i + 2 : Nat) : Int) := i64_add (b := 2) (by omega)
        have hm1 := hbig (acc.length + 1) (by omega)
        have hi0 : i ≤ s.length := by omega
        obtain ⟨u, hu⟩ : ∃ u, u = (s.drop fr).take (i - fr) := ⟨_, rfl⟩
        rw [← hu] at hO
        repeat (first | refine L.txLen (c := ?_) | refine C.seq ?_ | refine C.region ?_ | refine L.nil ?_ | refine D.seq ?_ | refine L.move (k := ?_) | refine L.cm (c := ?_) | refine L.ar (c := ?_) | refine C.yes (h1 := ?_) | refine L.pickT (k := ?_) | refine L.want (k := ?_) | refine C.block ?_ | refine C.skip ?_ | refine L.buildS (c := fun _ => ?_) | refine L.txAt (k := i) (a := s) rfl hx (c := ?_) | refine L.txAt (k := i + 1) (a := s) rfl hz (c := ?_) | refine L.txCut (a := s) (lo := fr) (hi := i) (r := u) hfi hi0 hu.symm (c := ?_))
        rename_i nb
        refine L.appendU [_] (L2 := []) (y := y) (m := acc.length) (u := .slice (some ⟨nb, 0, none⟩) 1 1) (k := 1) (news := [tx u]) hG rfl (fun w hw => Rd.own (hw.holds _ List.mem_cons_self) (by simp) (Nat.le_refl _) 1 rfl) rfl (by intro v hv; obtain rfl := List.mem_singleton.1 hv; rfl) hm1 (by omega) (c := fun y' hG' _ => ?_)
        simp only [List.cons_append, List.nil_append]
        repeat (first | refine C.region ?_ | refine L.nil ?_ | refine L.move (k := ?_) | refine L.assign (k := ?_) | refine L.ar (c := ?_) | refine D.blkNormal ?_ | refine D.seqR (h := ?_))
        have hla : (acc ++ [u]).length = acc.length + 1 := by simp
        exact D.then_ fun a1 w1 hs => ⟨((acc ++ [u], y'), (i + 1, i + 2)), ⟨by simp only [hla, List.map_append, List.map_cons, List.map_nil]; exact hG', by simp only; omega, by simp only [hla]; omega, .inr ⟨rfl, by simp only; rw [hz, h2]⟩, by simp only; rw [hf2, hO]; simp⟩, by simp only; omega, by simp only [hla]; exact hs.lessD 1 rfl (lk_cons rfl (lk_cons rfl (lk_cons rfl (lk_cons rfl (fun _ _ h => lk_nil h)))))⟩
      · have c3 : cm .eql (z.toNat : Int) 32 = false := cm_no (fun e => h2 (UInt8.toNat_inj.1 (by show z.toNat = 32; omega)))
        rw [if_neg (fun e => h2 (Option.some.inj e.2))] at hO
        have hfi : fr ≤ i := by
          rcases hfr with h | ⟨_, h⟩
          · exact h
          · rw [h1] at h; cases h
        repeat (first | refine L.txLen (c := ?_) | refine C.seq ?_ | refine C.region ?_ | refine L.nil ?_ | refine D.seq ?_ | refine L.move (k := ?_) | refine L.assign (k := ?_) | refine L.cm (c := ?_) | refine L.ar (c := ?_) | refine C.yes (h1 := ?_) | refine C.no (h1 := ?_) | refine L.pickT (k := ?_) | refine L.want (k := ?_) | refine C.block ?_ | refine D.blkNormal ?_ | refine C.skip ?_ | refine L.txAt (k := i) (a := s) rfl hx (c := ?_) | refine L.txAt (k := i + 1) (a := s) rfl hz (c := ?_))
        exact D.then_ fun a1 w1 hs => ⟨((acc, y), (i + 1, fr)), ⟨hG, by simp only; omega, by simp only; omega, .inl (by simp only; omega), by simp only; rw [hf2]; exact hO⟩, by simp only; omega, hs.lessE rfl (lk_cons rfl (lk_cons rfl (lk_cons rfl (lk_cons rfl (fun _ _ h => lk_nil h)))))⟩
    · have c2 : cm .eql (x.toNat : Int) 44 = false := cm_no (fun e => h1 (UInt8.toNat_inj.1 (by show x.toNat = 44; omega)))
      rw [if_neg (fun e => h1 (Option.some.inj e.1))] at hO
      repeat (first | refine L.txLen (c := ?_) | refine C.seq ?_ | refine C.region ?_ | refine L.nil ?_ | refine D.seq ?_ | refine L.move (k := ?_) | refine L.assign (k := ?_) | refine L.cm (c := ?_) | refine L.ar (c := ?_) | refine C.yes (h1 := ?_) | refine C.no (h1 := ?_) | refine L.pickF (k := ?_) | refine L.pass (k := ?_) | refine C.block ?_ | refine D.blkNormal ?_ | refine C.skip ?_ | refine L.txAt (k := i) (a := s) rfl hx (c := ?_))
      exact D.then_ fun a1 w1 hs => ⟨((acc, y), (i + 1, fr)), ⟨hG, by simp only; omega, by simp only; omega, .inl (by simp only; rcases hfr with h | ⟨h, _⟩ <;> omega), by simp only; rw [hf2]; exact hO⟩, by simp only; omega, hs.lessE rfl (lk_cons rfl (lk_cons rfl (lk_cons rfl (lk_cons rfl (fun _ _ h => lk_nil h)))))⟩
  · have c1 : cm .lss ((i + 1 : Nat) : Int) (s.length : Int) = false := cm_lo' (by omega)
    have hfl : fr ≤ s.length := by
      rcases hfr with h | ⟨h, h2⟩
      · omega
      · have := (List.getElem?_eq_some_iff.1 h2).1; omega
    have hO2 : R = acc ++ [s.drop fr] := by
      rw [hO]
      cases hq : s.length - i with
      | zero => rfl
      | succ q => unfold spl; rw [if_neg (by omega)]
    have hm1 := hbig (acc.length + 1) (by omega)
    have hcut : (s.drop fr).take (s.length - fr) = s.drop fr := by rw [List.take_of_length_le]; rw [List.length_drop]; omega
    repeat (first | refine L.txLen (c := ?_) | refine C.seq ?_ | refine C.region ?_ | refine L.nil ?_ | refine D.seq ?_ | refine L.move (k := ?_) | refine L.cm (c := ?_) | refine L.ar (c := ?_) | refine C.no (h1 := ?_) | refine C.exit ?_ | refine D.thenExit ?_ | refine D.blkExit ?_ | refine D.seqR (h := ?_) | refine L.buildS (c := fun _ => ?_) | refine L.txCut (a := s) (lo := fr) (hi := s.length) (r := s.drop fr) hfl (Nat.le_refl _) hcut (c := ?_))
    rename_i nb
    refine L.appendU [_] (L2 := []) (y := y) (m := acc.length) (u := .slice (some ⟨nb, 0, none⟩) 1 1) (k := 1) (news := [tx (s.drop fr)]) hG rfl (fun w hw => Rd.own (hw.holds _ List.mem_cons_self) (by simp) (Nat.le_refl _) 1 rfl) rfl (by intro v hv; obtain rfl := List.mem_singleton.1 hv; rfl) hm1 (by omega) (c := fun y' hG' _ => ?_)
    simp only [List.cons_append, List.nil_append]
    repeat (first | refine L.nil ?_ | refine L.assign (k := ?_) | refine C.ret ?_ | refine D.seqR (h := ?_))
    have hla : R.length = acc.length + 1 := by rw [hO2]; simp
    refine D.ret (vs := [osV R.length y']) (RV.tmp (by rw [hla]; rfl) RV.nil) ?_
    intro w' hw
    exact Post.mkD 1 hw rfl ⟨y', by rw [hla, hO2, List.map_append]; exact hG', rfl, rfl⟩
/-- What candidate fills, step by step: the instruction and how many operands are used up. -/
def cD (f : Fl) (l : List (List UInt8)) (z : Ins × Nat) : Ins × Nat := if f.bD = true ∧ z.2 < l.length then ({ z.1 with d := regOf (l.getD z.2 []) }, z.2 + 1) else z
def cS (f : Fl) (l : List (List UInt8)) (z : Ins × Nat) : Ins × Nat := if f.bS = true ∧ z.2 < l.length then ({ z.1 with s := regOf (l.getD z.2 []) }, z.2 + 1) else z
def cT (f : Fl) (l : List (List UInt8)) (z : Ins × Nat) : Ins × Nat := if f.bT = true ∧ z.2 < l.length then ({ z.1 with t := regOf (l.getD z.2 []) }, z.2 + 1) else z
def setM (i : Ins) (t : List UInt8) : Ins := { i with mb := (memB (memE t).2).1, mi := (memB (memE t).2).2.1, ms := (memB (memE t).2).2.2, md := (memE t).1 }
def c0 (f : Fl) (op : Int) (l : List (List UInt8)) : Ins × Nat := if f.b0 = true ∧ 0 < l.length ∧ 1 < (l.getD 0 []).length then (setM { ins0 with op := op } (l.getD 0 []), 1) else ({ ins0 with op := op }, 0)
def cM (f : Fl) (l : List (List UInt8)) (z : Ins × Nat) : Ins × Nat := if f.bM = true ∧ z.2 < l.length ∧ 1 < (l.getD z.2 []).length then (setM z.1 (l.getD z.2 []), z.2 + 1) else z
def cI (l : List (List UInt8)) (z : Ins × Nat) : Ins := if z.2 < l.length then { z.1 with im := (numR (l.getD z.2 [])).1 } else z.1
def z1 (f : Fl) (op : Int) (l : List (List UInt8)) : Ins × Nat := cD f l (c0 f op l)
def z2 (f : Fl) (op : Int) (l : List (List UInt8)) : Ins × Nat := cS f l (z1 f op l)
def z3 (f : Fl) (op : Int) (l : List (List UInt8)) : Ins × Nat := cT f l (z2 f op l)
def z4 (f : Fl) (op : Int) (l : List (List UInt8)) : Ins × Nat := cM f l (z3 f op l)
/-- What candidate fills. -/
def candC (op : Int) (l : List (List UInt8)) : Ins := cI l (z4 (flOf op) op l)
set_option maxRecDepth 100000 in
set_option maxHeartbeats 32000000 in
theorem rcand_S (op : Int) (v : Value) (l : List (List UInt8)) (hl : l.length ≤ 200000) (hl1 : ∀ x ∈ l, x.length ≤ 1000000) : Ctr Tryz.prog 35 [.int .i64 op, v] [] (fun w => Rd w [] v l.length (l.map tx)) (is (candC op l).val []) := by
  have hF := form_L op
  have h68 := has_L op 68
  have h83 := has_L op 83
  have h84 := has_L op 84
  have h77 := has_L op 77
  have e4 : cm .eql op 4 = decide (op = 4) := rfl
  have n4 : cm .neq op 4 = !decide (op = 4) := rfl
  unfold candC
  obtain ⟨f, hf⟩ : ∃ f, f = flOf op := ⟨_, rfl⟩
  have f0 : f.b0 = decide (op = 4) := by rw [hf]; rfl
  have fD : f.bD = hasC (formB op) 68 := by rw [hf]; rfl
  have fS : f.bS = hasC (formB op) 83 := by rw [hf]; rfl
  have fT : f.bT = hasC (formB op) 84 := by rw [hf]; rfl
  have fM : f.bM = (hasC (formB op) 77 && !decide (op = 4)) := by rw [hf]; rfl
  rw [← hf]
  clear hf
  have hgx : ∀ k, k < l.length → ∃ x, l[k]? = some x ∧ l.getD k [] = x ∧ (l.map tx)[k]? = some (tx x) ∧ x.length ≤ 1000000 := fun k hk => by
    refine ⟨l[k], List.getElem?_eq_getElem hk, by rw [List.getD_eq_getElem?_getD, List.getElem?_eq_getElem hk]; rfl, by rw [List.getElem?_map, List.getElem?_eq_getElem hk]; rfl, hl1 _ (List.getElem_mem hk)⟩
  refine Ctr.enter Tryz.func35 Tryz.ntmps35 rfl rfl (fun w hr => ?_)
  have sv := hr.1
  refine C.seq ?_
  repeat (first | refine C.region ?_ | refine L.nil ?_ | refine D.seq ?_ | refine L.alloc (c := fun _ => ?_))
  rename_i b4
  refine C.seq ?_
  repeat (first | refine C.region ?_ | refine L.nil ?_ | refine D.seq ?_ | refine L.move (k := ?_) | refine L.assign (k := ?_) | refine L.callQ (hF) (k := ?_))
  refine C.seq ?_
  repeat (first | refine C.region ?_ | refine L.nil ?_ | refine D.seq ?_ | refine L.move (k := ?_) | refine L.storeV 0 (c := ?_) | refine L.build (c := ?_) | refine L.alloc (c := fun _ => ?_))
  rename_i b6
  refine C.seq ?_
  repeat (first | refine C.region ?_ | refine L.nil ?_ | refine D.seq ?_ | refine L.assign (k := ?_))
  refine C.seq ?_
  refine C.joinK (α := Ins × Nat) (fun z => z = c0 f op l) (fun z => [(0, .int .i64 op), (1, v), (4, .pointer (some ⟨b4, 0, none⟩)), (5, .string (formB op)), (6, .pointer (some ⟨b6, 0, none⟩)), (7, .int .i64 (z.2 : Int))]) (fun z => [(b6, ob z.1.cells 25), (b4, ob ins0.cells 25)]) ?_ ?_
  · cases hq : decide (op = 4) with
    | false =>
      rw [hq] at e4 f0
      have hz : c0 f op l = ({ ins0 with op := op }, 0) := by unfold c0; rw [if_neg (fun e => by rw [f0] at e; cases e.1)]
      repeat (first | refine L.txLen (c := ?_) | refine C.seq ?_ | refine C.region ?_ | refine L.nil ?_ | refine D.seq ?_ | refine L.move (k := ?_) | refine L.cm (c := ?_) | refine C.no (h1 := ?_) | refine L.pickF (k := ?_) | refine L.pass (k := ?_) | refine C.skip ?_ | refine L.callQ (h68) (k := ?_) | refine L.callQ (h83) (k := ?_) | refine L.callQ (h84) (k := ?_) | refine L.callQ (h77) (k := ?_) | refine L.lenR sv (c := ?_))
      exact D.then_ fun a1 w1 hs => ⟨_, hz.symm, hs.lessE rfl (lk_cons rfl (lk_cons rfl (lk_cons rfl (lk_cons rfl (lk_cons rfl (lk_cons rfl (fun _ _ h => lk_nil h)))))))⟩
    | true =>
      rw [hq] at e4 f0
      by_cases h0 : 0 < l.length
      · have c1 : cm .gtr (l.length : Int) 0 = true := cm_gt (by omega)
        obtain ⟨x, hx, hxd, hxv, hxl⟩ := hgx 0 h0
        have o1 := hr.2 h0
        by_cases h1 : 1 < x.length
        · have c2 : cm .gtr (x.length : Int) 1 = true := cm_gt (by omega)
          have hz : c0 f op l = (setM { ins0 with op := op } x, 1) := by unfold c0; rw [hxd, if_pos ⟨f0, h0, h1⟩]
          have hM := mem_R x hxl h1
          repeat (first | refine L.txLen (c := ?_) | refine C.seq ?_ | refine C.region ?_ | refine L.nil ?_ | refine D.seq ?_ | refine L.move (k := ?_) | refine L.assign (k := ?_) | refine L.cm (c := ?_) | refine L.fieldAddr (c := ?_) | refine L.storeV 0 (c := ?_) | refine C.yes (h1 := ?_) | refine L.pickT (k := ?_) | refine L.want (k := ?_) | refine L.callQ (h68) (k := ?_) | refine L.callQ (h83) (k := ?_) | refine L.callQ (h84) (k := ?_) | refine L.callQ (h77) (k := ?_) | refine L.lenR sv (c := ?_) | refine L.indexR (i := 0) sv h0 (c := ?_) | refine L.loadF o1 hxv (ho := by simp) (c := ?_) | refine L.callQ (hM) (k := ?_))
          exact D.then_ fun a1 w1 hs => ⟨_, hz.symm, hs.lessE rfl (lk_cons rfl (lk_cons rfl (lk_cons rfl (lk_cons rfl (lk_cons rfl (lk_cons rfl (fun _ _ h => lk_nil h)))))))⟩
        · have c2 : cm .gtr (x.length : Int) 1 = false := cm_gt' (by omega)
          have hz : c0 f op l = ({ ins0 with op := op }, 0) := by unfold c0; rw [hxd, if_neg (fun e => h1 e.2.2)]
          repeat (first | refine L.txLen (c := ?_) | refine C.seq ?_ | refine C.region ?_ | refine L.nil ?_ | refine D.seq ?_ | refine L.move (k := ?_) | refine L.cm (c := ?_) | refine C.no (h1 := ?_) | refine L.pickT (k := ?_) | refine L.want (k := ?_) | refine C.skip ?_ | refine L.callQ (h68) (k := ?_) | refine L.callQ (h83) (k := ?_) | refine L.callQ (h84) (k := ?_) | refine L.callQ (h77) (k := ?_) | refine L.lenR sv (c := ?_) | refine L.indexR (i := 0) sv h0 (c := ?_) | refine L.loadF o1 hxv (ho := by simp) (c := ?_))
          exact D.then_ fun a1 w1 hs => ⟨_, hz.symm, hs.lessE rfl (lk_cons rfl (lk_cons rfl (lk_cons rfl (lk_cons rfl (lk_cons rfl (lk_cons rfl (fun _ _ h => lk_nil h)))))))⟩
      · have c1 : cm .gtr (l.length : Int) 0 = false := cm_gt' (by omega)
        have hz : c0 f op l = ({ ins0 with op := op }, 0) := by unfold c0; rw [if_neg (fun e => h0 e.2.1)]
        repeat (first | refine L.txLen (c := ?_) | refine C.seq ?_ | refine C.region ?_ | refine L.nil ?_ | refine D.seq ?_ | refine L.move (k := ?_) | refine L.cm (c := ?_) | refine C.no (h1 := ?_) | refine L.pickT (k := ?_) | refine L.pickF (k := ?_) | refine L.want (k := ?_) | refine L.pass (k := ?_) | refine C.skip ?_ | refine L.callQ (h68) (k := ?_) | refine L.callQ (h83) (k := ?_) | refine L.callQ (h84) (k := ?_) | refine L.callQ (h77) (k := ?_) | refine L.lenR sv (c := ?_))
        exact D.then_ fun a1 w1 hs => ⟨_, hz.symm, hs.lessE rfl (lk_cons rfl (lk_cons rfl (lk_cons rfl (lk_cons rfl (lk_cons rfl (lk_cons rfl (fun _ _ h => lk_nil h)))))))⟩
  rintro z hz0
  have hk6 : z.2 ≤ 10 := by rw [hz0]; unfold c0; repeat' split <;> simp
  have d1 : ar .add .i64 (z.2 : Int) 1 = ((z.2 + 1 : Nat) : Int) := i64_add (b := 1) (by omega)
  refine C.seq ?_
  refine C.joinK (α := Ins × Nat) (fun z => z = z1 f op l) (fun z => [(0, .int .i64 op), (1, v), (4, .pointer (some ⟨b4, 0, none⟩)), (5, .string (formB op)), (6, .pointer (some ⟨b6, 0, none⟩)), (7, .int .i64 (z.2 : Int))]) (fun z => [(b6, ob z.1.cells 25), (b4, ob ins0.cells 25)]) ?_ ?_
  · obtain ⟨i, k⟩ := z
    dsimp only at d1 hk6 ⊢
    cases hq : hasC (formB op) 68 with
    | false =>
      rw [hq] at h68 fD
      have hz : z1 f op l = (i, k) := by unfold z1; rw [← hz0]; unfold cD; rw [if_neg (fun e => by rw [fD] at e; cases e.1)]
      repeat (first | refine L.txLen (c := ?_) | refine C.seq ?_ | refine C.region ?_ | refine L.nil ?_ | refine D.seq ?_ | refine L.move (k := ?_) | refine C.no (h1 := ?_) | refine L.pickF (k := ?_) | refine L.pass (k := ?_) | refine C.skip ?_ | refine L.callQ (h68) (k := ?_) | refine L.callQ (h83) (k := ?_) | refine L.callQ (h84) (k := ?_) | refine L.callQ (h77) (k := ?_) | refine L.lenR sv (c := ?_))
      exact D.then_ fun a1 w1 hs => ⟨_, hz.symm, hs.lessE rfl (lk_cons rfl (lk_cons rfl (lk_cons rfl (lk_cons rfl (lk_cons rfl (lk_cons rfl (fun _ _ h => lk_nil h)))))))⟩
    | true =>
      rw [hq] at h68 fD
      by_cases h0 : k < l.length
      · have c1 : cm .lss (k : Int) (l.length : Int) = true := cm_lo (by omega)
        obtain ⟨x, hx, hxd, hxv, hxl⟩ := hgx k h0
        have o1 := hr.2 (by omega)
        have hz : z1 f op l = ({ i with d := regOf x }, k + 1) := by unfold z1; rw [← hz0]; unfold cD; rw [hxd, if_pos ⟨fD, h0⟩]
        have hRg := rreg_S x
        repeat (first | refine L.txLen (c := ?_) | refine C.seq ?_ | refine C.region ?_ | refine L.nil ?_ | refine D.seq ?_ | refine L.move (k := ?_) | refine L.assign (k := ?_) | refine L.cm (c := ?_) | refine L.ar (c := ?_) | refine L.fieldAddr (c := ?_) | refine L.storeV 0 (c := ?_) | refine C.yes (h1 := ?_) | refine L.pickT (k := ?_) | refine L.want (k := ?_) | refine L.callQ (h68) (k := ?_) | refine L.callQ (h83) (k := ?_) | refine L.callQ (h84) (k := ?_) | refine L.callQ (h77) (k := ?_) | refine L.lenR sv (c := ?_) | refine L.indexR sv h0 (c := ?_) | refine L.loadF o1 hxv (ho := by simp) (c := ?_) | refine L.callQ (hRg) (k := ?_))
        exact D.then_ fun a1 w1 hs => ⟨_, hz.symm, hs.lessE rfl (lk_cons rfl (lk_cons rfl (lk_cons rfl (lk_cons rfl (lk_cons rfl (lk_cons rfl (fun _ _ h => lk_nil h)))))))⟩
      · have c1 : cm .lss (k : Int) (l.length : Int) = false := cm_lo' (by omega)
        have hz : z1 f op l = (i, k) := by unfold z1; rw [← hz0]; unfold cD; rw [if_neg (fun e => h0 e.2)]
        repeat (first | refine L.txLen (c := ?_) | refine C.seq ?_ | refine C.region ?_ | refine L.nil ?_ | refine D.seq ?_ | refine L.move (k := ?_) | refine L.cm (c := ?_) | refine C.no (h1 := ?_) | refine L.pickT (k := ?_) | refine L.want (k := ?_) | refine C.skip ?_ | refine L.callQ (h68) (k := ?_) | refine L.callQ (h83) (k := ?_) | refine L.callQ (h84) (k := ?_) | refine L.callQ (h77) (k := ?_) | refine L.lenR sv (c := ?_))
        exact D.then_ fun a1 w1 hs => ⟨_, hz.symm, hs.lessE rfl (lk_cons rfl (lk_cons rfl (lk_cons rfl (lk_cons rfl (lk_cons rfl (lk_cons rfl (fun _ _ h => lk_nil h)))))))⟩
  rintro z hz0
  have hk6 : z.2 ≤ 10 := by rw [hz0]; unfold z1 cD c0; repeat' split <;> simp
  have d1 : ar .add .i64 (z.2 : Int) 1 = ((z.2 + 1 : Nat) : Int) := i64_add (b := 1) (by omega)
  refine C.seq ?_
  refine C.joinK (α := Ins × Nat) (fun z => z = z2 f op l) (fun z => [(0, .int .i64 op), (1, v), (4, .pointer (some ⟨b4, 0, none⟩)), (5, .string (formB op)), (6, .pointer (some ⟨b6, 0, none⟩)), (7, .int .i64 (z.2 : Int))]) (fun z => [(b6, ob z.1.cells 25), (b4, ob ins0.cells 25)]) ?_ ?_
  · obtain ⟨i, k⟩ := z
    dsimp only at d1 hk6 ⊢
    cases hq : hasC (formB op) 83 with
    | false =>
      rw [hq] at h83 fS
      have hz : z2 f op l = (i, k) := by unfold z2; rw [← hz0]; unfold cS; rw [if_neg (fun e => by rw [fS] at e; cases e.1)]
      repeat (first | refine L.txLen (c := ?_) | refine C.seq ?_ | refine C.region ?_ | refine L.nil ?_ | refine D.seq ?_ | refine L.move (k := ?_) | refine C.no (h1 := ?_) | refine L.pickF (k := ?_) | refine L.pass (k := ?_) | refine C.skip ?_ | refine L.callQ (h68) (k := ?_) | refine L.callQ (h83) (k := ?_) | refine L.callQ (h84) (k := ?_) | refine L.callQ (h77) (k := ?_) | refine L.lenR sv (c := ?_))
      exact D.then_ fun a1 w1 hs => ⟨_, hz.symm, hs.lessE rfl (lk_cons rfl (lk_cons rfl (lk_cons rfl (lk_cons rfl (lk_cons rfl (lk_cons rfl (fun _ _ h => lk_nil h)))))))⟩
    | true =>
      rw [hq] at h83 fS
      by_cases h0 : k < l.length
      · have c1 : cm .lss (k : Int) (l.length : Int) = true := cm_lo (by omega)
        obtain ⟨x, hx, hxd, hxv, hxl⟩ := hgx k h0
        have o1 := hr.2 (by omega)
        have hz : z2 f op l = ({ i with s := regOf x }, k + 1) := by unfold z2; rw [← hz0]; unfold cS; rw [hxd, if_pos ⟨fS, h0⟩]
        have hRg := rreg_S x
        repeat (first | refine L.txLen (c := ?_) | refine C.seq ?_ | refine C.region ?_ | refine L.nil ?_ | refine D.seq ?_ | refine L.move (k := ?_) | refine L.assign (k := ?_) | refine L.cm (c := ?_) | refine L.ar (c := ?_) | refine L.fieldAddr (c := ?_) | refine L.storeV 0 (c := ?_) | refine C.yes (h1 := ?_) | refine L.pickT (k := ?_) | refine L.want (k := ?_) | refine L.callQ (h68) (k := ?_) | refine L.callQ (h83) (k := ?_) | refine L.callQ (h84) (k := ?_) | refine L.callQ (h77) (k := ?_) | refine L.lenR sv (c := ?_) | refine L.indexR sv h0 (c := ?_) | refine L.loadF o1 hxv (ho := by simp) (c := ?_) | refine L.callQ (hRg) (k := ?_))
        exact D.then_ fun a1 w1 hs => ⟨_, hz.symm, hs.lessE rfl (lk_cons rfl (lk_cons rfl (lk_cons rfl (lk_cons rfl (lk_cons rfl (lk_cons rfl (fun _ _ h => lk_nil h)))))))⟩
      · have c1 : cm .lss (k : Int) (l.length : Int) = false := cm_lo' (by omega)
        have hz : z2 f op l = (i, k) := by unfold z2; rw [← hz0]; unfold cS; rw [if_neg (fun e => h0 e.2)]
        repeat (first | refine L.txLen (c := ?_) | refine C.seq ?_ | refine C.region ?_ | refine L.nil ?_ | refine D.seq ?_ | refine L.move (k := ?_) | refine L.cm (c := ?_) | refine C.no (h1 := ?_) | refine L.pickT (k := ?_) | refine L.want (k := ?_) | refine C.skip ?_ | refine L.callQ (h68) (k := ?_) | refine L.callQ (h83) (k := ?_) | refine L.callQ (h84) (k := ?_) | refine L.callQ (h77) (k := ?_) | refine L.lenR sv (c := ?_))
        exact D.then_ fun a1 w1 hs => ⟨_, hz.symm, hs.lessE rfl (lk_cons rfl (lk_cons rfl (lk_cons rfl (lk_cons rfl (lk_cons rfl (lk_cons rfl (fun _ _ h => lk_nil h)))))))⟩
  rintro z hz0
  have hk6 : z.2 ≤ 10 := by rw [hz0]; unfold z2 z1 cS cD c0; repeat' split <;> simp
  have d1 : ar .add .i64 (z.2 : Int) 1 = ((z.2 + 1 : Nat) : Int) := i64_add (b := 1) (by omega)
  refine C.seq ?_
  refine C.joinK (α := Ins × Nat) (fun z => z = z3 f op l) (fun z => [(0, .int .i64 op), (1, v), (4, .pointer (some ⟨b4, 0, none⟩)), (5, .string (formB op)), (6, .pointer (some ⟨b6, 0, none⟩)), (7, .int .i64 (z.2 : Int))]) (fun z => [(b6, ob z.1.cells 25), (b4, ob ins0.cells 25)]) ?_ ?_
  · obtain ⟨i, k⟩ := z
    dsimp only at d1 hk6 ⊢
    cases hq : hasC (formB op) 84 with
    | false =>
      rw [hq] at h84 fT
      have hz : z3 f op l = (i, k) := by unfold z3; rw [← hz0]; unfold cT; rw [if_neg (fun e => by rw [fT] at e; cases e.1)]
      repeat (first | refine L.txLen (c := ?_) | refine C.seq ?_ | refine C.region ?_ | refine L.nil ?_ | refine D.seq ?_ | refine L.move (k := ?_) | refine C.no (h1 := ?_) | refine L.pickF (k := ?_) | refine L.pass (k := ?_) | refine C.skip ?_ | refine L.callQ (h68) (k := ?_) | refine L.callQ (h83) (k := ?_) | refine L.callQ (h84) (k := ?_) | refine L.callQ (h77) (k := ?_) | refine L.lenR sv (c := ?_))
      exact D.then_ fun a1 w1 hs => ⟨_, hz.symm, hs.lessE rfl (lk_cons rfl (lk_cons rfl (lk_cons rfl (lk_cons rfl (lk_cons rfl (lk_cons rfl (fun _ _ h => lk_nil h)))))))⟩
    | true =>
      rw [hq] at h84 fT
      by_cases h0 : k < l.length
      · have c1 : cm .lss (k : Int) (l.length : Int) = true := cm_lo (by omega)
        obtain ⟨x, hx, hxd, hxv, hxl⟩ := hgx k h0
        have o1 := hr.2 (by omega)
        have hz : z3 f op l = ({ i with t := regOf x }, k + 1) := by unfold z3; rw [← hz0]; unfold cT; rw [hxd, if_pos ⟨fT, h0⟩]
        have hRg := rreg_S x
        repeat (first | refine L.txLen (c := ?_) | refine C.seq ?_ | refine C.region ?_ | refine L.nil ?_ | refine D.seq ?_ | refine L.move (k := ?_) | refine L.assign (k := ?_) | refine L.cm (c := ?_) | refine L.ar (c := ?_) | refine L.fieldAddr (c := ?_) | refine L.storeV 0 (c := ?_) | refine C.yes (h1 := ?_) | refine L.pickT (k := ?_) | refine L.want (k := ?_) | refine L.callQ (h68) (k := ?_) | refine L.callQ (h83) (k := ?_) | refine L.callQ (h84) (k := ?_) | refine L.callQ (h77) (k := ?_) | refine L.lenR sv (c := ?_) | refine L.indexR sv h0 (c := ?_) | refine L.loadF o1 hxv (ho := by simp) (c := ?_) | refine L.callQ (hRg) (k := ?_))
        exact D.then_ fun a1 w1 hs => ⟨_, hz.symm, hs.lessE rfl (lk_cons rfl (lk_cons rfl (lk_cons rfl (lk_cons rfl (lk_cons rfl (lk_cons rfl (fun _ _ h => lk_nil h)))))))⟩
      · have c1 : cm .lss (k : Int) (l.length : Int) = false := cm_lo' (by omega)
        have hz : z3 f op l = (i, k) := by unfold z3; rw [← hz0]; unfold cT; rw [if_neg (fun e => h0 e.2)]
        repeat (first | refine L.txLen (c := ?_) | refine C.seq ?_ | refine C.region ?_ | refine L.nil ?_ | refine D.seq ?_ | refine L.move (k := ?_) | refine L.cm (c := ?_) | refine C.no (h1 := ?_) | refine L.pickT (k := ?_) | refine L.want (k := ?_) | refine C.skip ?_ | refine L.callQ (h68) (k := ?_) | refine L.callQ (h83) (k := ?_) | refine L.callQ (h84) (k := ?_) | refine L.callQ (h77) (k := ?_) | refine L.lenR sv (c := ?_))
        exact D.then_ fun a1 w1 hs => ⟨_, hz.symm, hs.lessE rfl (lk_cons rfl (lk_cons rfl (lk_cons rfl (lk_cons rfl (lk_cons rfl (lk_cons rfl (fun _ _ h => lk_nil h)))))))⟩
  rintro z hz0
  have hk6 : z.2 ≤ 10 := by rw [hz0]; unfold z3 z2 z1 cT cS cD c0; repeat' split <;> simp
  have d1 : ar .add .i64 (z.2 : Int) 1 = ((z.2 + 1 : Nat) : Int) := i64_add (b := 1) (by omega)
  refine C.seq ?_
  refine C.joinK (α := Ins × Nat) (fun z => z = z4 f op l) (fun z => [(0, .int .i64 op), (1, v), (4, .pointer (some ⟨b4, 0, none⟩)), (5, .string (formB op)), (6, .pointer (some ⟨b6, 0, none⟩)), (7, .int .i64 (z.2 : Int))]) (fun z => [(b6, ob z.1.cells 25), (b4, ob ins0.cells 25)]) ?_ ?_
  · obtain ⟨i, k⟩ := z
    dsimp only at d1 hk6 ⊢
    by_cases hb : f.bM = true
    · rw [fM] at hb
      simp only [Bool.and_eq_true, Bool.not_eq_true'] at hb
      rw [hb.1] at h77
      rw [hb.2] at n4
      have n4' : cm .neq op 4 = true := n4
      have fM' : f.bM = true := by rw [fM, hb.1, hb.2]; rfl
      by_cases h0 : k < l.length
      · have c1 : cm .lss (k : Int) (l.length : Int) = true := cm_lo (by omega)
        obtain ⟨x, hx, hxd, hxv, hxl⟩ := hgx k h0
        have o1 := hr.2 (by omega)
        by_cases h1 : 1 < x.length
        · have c2 : cm .gtr (x.length : Int) 1 = true := cm_gt (by omega)
          have hz : z4 f op l = (setM i x, k + 1) := by unfold z4; rw [← hz0]; unfold cM; rw [hxd, if_pos ⟨fM', h0, h1⟩]
          have hM := mem_R x hxl h1
          repeat (first | refine L.txLen (c := ?_) | refine C.seq ?_ | refine C.region ?_ | refine L.nil ?_ | refine D.seq ?_ | refine L.move (k := ?_) | refine L.assign (k := ?_) | refine L.cm (c := ?_) | refine L.ar (c := ?_) | refine L.fieldAddr (c := ?_) | refine L.storeV 0 (c := ?_) | refine C.yes (h1 := ?_) | refine L.pickT (k := ?_) | refine L.want (k := ?_) | refine L.callQ (h68) (k := ?_) | refine L.callQ (h83) (k := ?_) | refine L.callQ (h84) (k := ?_) | refine L.callQ (h77) (k := ?_) | refine L.lenR sv (c := ?_) | refine L.indexR sv h0 (c := ?_) | refine L.loadF o1 hxv (ho := by simp) (c := ?_) | refine L.callQ (hM) (k := ?_))
          exact D.then_ fun a1 w1 hs => ⟨_, hz.symm, hs.lessE rfl (lk_cons rfl (lk_cons rfl (lk_cons rfl (lk_cons rfl (lk_cons rfl (lk_cons rfl (fun _ _ h => lk_nil h)))))))⟩
        · have c2 : cm .gtr (x.length : Int) 1 = false := cm_gt' (by omega)
          have hz : z4 f op l = (i, k) := by unfold z4; rw [← hz0]; unfold cM; rw [hxd, if_neg (fun e => h1 e.2.2)]
          repeat (first | refine L.txLen (c := ?_) | refine C.seq ?_ | refine C.region ?_ | refine L.nil ?_ | refine D.seq ?_ | refine L.move (k := ?_) | refine L.cm (c := ?_) | refine C.no (h1 := ?_) | refine L.pickT (k := ?_) | refine L.want (k := ?_) | refine C.skip ?_ | refine L.callQ (h68) (k := ?_) | refine L.callQ (h83) (k := ?_) | refine L.callQ (h84) (k := ?_) | refine L.callQ (h77) (k := ?_) | refine L.lenR sv (c := ?_) | refine L.indexR sv h0 (c := ?_) | refine L.loadF o1 hxv (ho := by simp) (c := ?_))
          exact D.then_ fun a1 w1 hs => ⟨_, hz.symm, hs.lessE rfl (lk_cons rfl (lk_cons rfl (lk_cons rfl (lk_cons rfl (lk_cons rfl (lk_cons rfl (fun _ _ h => lk_nil h)))))))⟩
      · have c1 : cm .lss (k : Int) (l.length : Int) = false := cm_lo' (by omega)
        have hz : z4 f op l = (i, k) := by unfold z4; rw [← hz0]; unfold cM; rw [if_neg (fun e => h0 e.2.1)]
        repeat (first | refine L.txLen (c := ?_) | refine C.seq ?_ | refine C.region ?_ | refine L.nil ?_ | refine D.seq ?_ | refine L.move (k := ?_) | refine L.cm (c := ?_) | refine C.no (h1 := ?_) | refine L.pickT (k := ?_) | refine L.pickF (k := ?_) | refine L.want (k := ?_) | refine L.pass (k := ?_) | refine C.skip ?_ | refine L.callQ (h68) (k := ?_) | refine L.callQ (h83) (k := ?_) | refine L.callQ (h84) (k := ?_) | refine L.callQ (h77) (k := ?_) | refine L.lenR sv (c := ?_))
        exact D.then_ fun a1 w1 hs => ⟨_, hz.symm, hs.lessE rfl (lk_cons rfl (lk_cons rfl (lk_cons rfl (lk_cons rfl (lk_cons rfl (lk_cons rfl (fun _ _ h => lk_nil h)))))))⟩
    · have hz : z4 f op l = (i, k) := by unfold z4; rw [← hz0]; unfold cM; rw [if_neg (fun e => hb e.1)]
      cases hq : hasC (formB op) 77 with
      | false =>
        rw [hq] at h77
        repeat (first | refine L.txLen (c := ?_) | refine C.seq ?_ | refine C.region ?_ | refine L.nil ?_ | refine D.seq ?_ | refine L.move (k := ?_) | refine C.no (h1 := ?_) | refine L.pickF (k := ?_) | refine L.pass (k := ?_) | refine C.skip ?_ | refine L.callQ (h68) (k := ?_) | refine L.callQ (h83) (k := ?_) | refine L.callQ (h84) (k := ?_) | refine L.callQ (h77) (k := ?_) | refine L.lenR sv (c := ?_))
        exact D.then_ fun a1 w1 hs => ⟨_, hz.symm, hs.lessE rfl (lk_cons rfl (lk_cons rfl (lk_cons rfl (lk_cons rfl (lk_cons rfl (lk_cons rfl (fun _ _ h => lk_nil h)))))))⟩
      | true =>
        rw [hq] at h77
        have hq2 : decide (op = 4) = true := by
          cases h : decide (op = 4) with
          | true => rfl
          | false => exact absurd (by rw [fM, hq, h]; rfl) hb
        rw [hq2] at n4
        have n4' : cm .neq op 4 = false := n4
        repeat (first | refine L.txLen (c := ?_) | refine C.seq ?_ | refine C.region ?_ | refine L.nil ?_ | refine D.seq ?_ | refine L.move (k := ?_) | refine L.cm (c := ?_) | refine C.no (h1 := ?_) | refine L.pickT (k := ?_) | refine L.pickF (k := ?_) | refine L.want (k := ?_) | refine L.pass (k := ?_) | refine C.skip ?_ | refine L.callQ (h68) (k := ?_) | refine L.callQ (h83) (k := ?_) | refine L.callQ (h84) (k := ?_) | refine L.callQ (h77) (k := ?_) | refine L.lenR sv (c := ?_))
        exact D.then_ fun a1 w1 hs => ⟨_, hz.symm, hs.lessE rfl (lk_cons rfl (lk_cons rfl (lk_cons rfl (lk_cons rfl (lk_cons rfl (lk_cons rfl (fun _ _ h => lk_nil h)))))))⟩
  rintro z hz0
  rw [← hz0]
  obtain ⟨i, k⟩ := z
  clear hz0
  dsimp only
  by_cases h0 : k < l.length
  · have c1 : cm .lss (k : Int) (l.length : Int) = true := cm_lo (by omega)
    obtain ⟨x, hx, hxd, hxv, hxl⟩ := hgx k h0
    have o1 := hr.2 (by omega)
    have hz : cI l (i, k) = { i with im := (numR x).1 } := by unfold cI; rw [if_pos h0]; simp only; rw [hxd]
    rw [hz]
    have hNm := number_R x hxl
    repeat (first | refine L.txLen (c := ?_) | refine C.seq ?_ | refine C.region ?_ | refine L.nil ?_ | refine D.seq ?_ | refine L.move (k := ?_) | refine L.cm (c := ?_) | refine C.yes (h1 := ?_) | refine L.callQ (h68) (k := ?_) | refine L.callQ (h83) (k := ?_) | refine L.callQ (h84) (k := ?_) | refine L.callQ (h77) (k := ?_) | refine L.lenR sv (c := ?_) | refine L.indexR sv h0 (c := ?_) | refine L.loadF o1 hxv (ho := by simp) (c := ?_))
    refine L.callP [] hNm (k := ?_)
    rintro u B ⟨rfl, rfl⟩
    rw [hdrop_nil, List.nil_append]
    repeat (first | refine C.seq ?_ | refine C.region ?_ | refine L.nil ?_ | refine D.seq ?_ | refine L.move (k := ?_) | refine L.fieldAddr (c := ?_) | refine L.loadA 0 (c := ?_) | refine L.storeV 0 (c := ?_) | refine L.storeV 1 (c := ?_) | refine L.extract (c := ?_) | refine C.ret ?_)
    refine D.ret (vs := [_]) (RV.cellA 1 rfl rfl rfl rfl rfl RV.nil) ?_
    intro w' hw; exact Post.mk (is := []) hw List.nodup_nil rfl ⟨rfl, rfl⟩
  · have c1 : cm .lss (k : Int) (l.length : Int) = false := cm_lo' (by omega)
    have hz : cI l (i, k) = i := by unfold cI; rw [if_neg h0]
    rw [hz]
    repeat (first | refine L.txLen (c := ?_) | refine C.seq ?_ | refine C.region ?_ | refine L.nil ?_ | refine D.seq ?_ | refine L.move (k := ?_) | refine L.cm (c := ?_) | refine L.loadA 0 (c := ?_) | refine L.storeV 1 (c := ?_) | refine C.no (h1 := ?_) | refine C.ret ?_ | refine C.skip ?_ | refine L.callQ (h68) (k := ?_) | refine L.callQ (h83) (k := ?_) | refine L.callQ (h84) (k := ?_) | refine L.callQ (h77) (k := ?_) | refine L.lenR sv (c := ?_))
    refine D.ret (vs := [_]) (RV.cellA 1 rfl rfl rfl rfl rfl RV.nil) ?_
    intro w' hw; exact Post.mk (is := []) hw List.nodup_nil rfl ⟨rfl, rfl⟩
end Go.Proofs.YtokcamgipnaoeaaGreatDoor.Ls
