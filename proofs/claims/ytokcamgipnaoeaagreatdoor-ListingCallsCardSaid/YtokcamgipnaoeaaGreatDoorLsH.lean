/- Listing: Read: what it answers. Conditions: the library's tables and errors as laid. -/
import Derived.Test.YtokcamgipnaoeaaGreatDoorLsG
set_option linter.unusedVariables false
set_option linter.unusedSimpArgs false
namespace Go.Proofs.YtokcamgipnaoeaaGreatDoor.Ls
open Go Go.RowKit SL Go.Shelf
attribute [local irreducible] SL.L SL.C SL.D SL.N SL.H SL.QL SL.QW SL.QP

/-- The operands that stand, cut at commas. -/
def opsF : Nat → List UInt8 → Bool → Option (List Opd)
  | _, _, false => some []
  | 0, _, true => none
  | f + 1, r, true => match readR (Lib.cut r [44, 32]).1 with
    | none => none
    | some x => (opsF f (Lib.cut r [44, 32]).2.1 (Lib.cut r [44, 32]).2.2).map (x :: ·)
def candF (l : List Opd) (s name : List UInt8) : Nat → Nat → Option Ins
  | 0, _ => none
  | f + 1, op => if nameT op = name ∧ (fillR op l).chk = true ∧ instT (fillR op l) = s then some (fillR op l) else candF l s name f (op + 1)
def opsOf (s : List UInt8) : Option (List Opd) := opsF (s.length + 1) (Lib.cut s [32]).2.1 (Lib.cut s [32]).2.2
/-- What Read reads. -/
def readI (s : List UInt8) : Option Ins := match opsOf s with
  | none => none
  | some l => candF l s (Lib.cut s [32]).1 33 1
def readV : Option Ins → Value → Hp → Prop
  | some i => two i.val (.int .i64 0)
  | none => two ins0.val (.int .i64 7)
theorem i64_0 : I64' 0 := ⟨by decide, by decide⟩
theorem i64_1 : I64' 1 := ⟨by decide, by decide⟩
theorem insM_ok (l : List UInt8) : (insP l).ok := by
  refine ⟨?_, ?_⟩
  · unfold insB
    split
    · exact atoV_64 _
    · exact i64_1
  · unfold insA
    split
    · exact parI_64 _
    · exact i64_0
theorem readR_ok {l : List UInt8} {x : Opd} (h : readR l = some x) : x.ok := by
  unfold readR at h
  split at h
  · cases h; trivial
  · split at h
    · cases h; exact insM_ok _
    · split at h
      · split at h
        · cases h; exact parI_64 l
        · cases h; exact parI_64 l
      · cases h
theorem fill1_ok {i : Ins} {c : UInt8} {x : Opd} (hi : i.ok) (hx : x.ok) : (fill1 i c x).ok := by
  cases x with
  | r n =>
    unfold fill1
    simp only
    repeat' split
    all_goals exact hi
  | n n => exact ⟨hi.1, hi.2.1, hx⟩
  | j n => exact ⟨hi.1, hi.2.1, hx⟩
  | m a b c d => exact ⟨hx.1, hx.2, hi.2.2⟩
theorem fillF_ok : ∀ (sh : List UInt8) (l : List Opd) (i : Ins), i.ok → (∀ x ∈ l, x.ok) → (fillF i sh l).ok
  | [], l, i, h, _ => by cases l <;> exact h
  | c :: cs, [], i, h, _ => h
  | c :: cs, x :: xs, i, h, hx => fillF_ok cs xs _ (fill1_ok h (hx x List.mem_cons_self)) (fun y hy => hx y (List.mem_cons_of_mem _ hy))
theorem fillR_ok (op : Int) (l : List Opd) (hx : ∀ x ∈ l, x.ok) : (fillR op l).ok := by
  have h0 : ∀ op : Int, Ins.ok { ins0 with op := op } := fun op => ⟨i64_0, i64_0, i64_0⟩
  unfold fillR
  split
  · exact fillF_ok _ _ _ (h0 op) hx
  · exact h0 0
theorem opsF_ok : ∀ (f : Nat) (r : List UInt8) (b : Bool) (l : List Opd), opsF f r b = some l → ∀ x ∈ l, x.ok
  | f, r, false, l, h => by
    cases f <;> (unfold opsF at h; cases h; simp)
  | 0, r, true, l, h => by unfold opsF at h; cases h
  | f + 1, r, true, l, h => by
    unfold opsF at h
    split at h
    · cases h
    · rename_i x hx
      obtain ⟨q, hq, rfl⟩ := Option.map_eq_some_iff.1 h
      intro y hy
      rcases List.mem_cons.1 hy with rfl | hy
      · exact readR_ok hx
      · exact opsF_ok f _ _ q hq y hy
theorem opsF_more : ∀ (f : Nat) (r : List UInt8) (b : Bool), (b = true → r.length + 1 ≤ f) → ∀ g, f ≤ g → opsF g r b = opsF f r b
  | f, r, false, _, g, _ => by cases f <;> cases g <;> rfl
  | 0, r, true, h, g, _ => by have := h rfl; omega
  | f + 1, r, true, h, 0, hg => by omega
  | f + 1, r, true, h, g + 1, hg => by
    have := h rfl
    unfold opsF
    rw [opsF_more f _ _ (fun hb => by have := cut_len3 r [44, 32] (by decide) hb; omega) g (by omega)]
theorem candF_is {l : List Opd} {s name : List UInt8} {i : Ins} : ∀ (f op : Nat), candF l s name f op = some i → i.chk = true ∧ instT i = s ∧ ∃ op' : Nat, i = fillR op' l
  | 0, op, h => by cases h
  | f + 1, op, h => by
    unfold candF at h
    split at h
    · rename_i hc; cases h; exact ⟨hc.2.1, hc.2.2, op, rfl⟩
    · exact candF_is f (op + 1) h
theorem readI_is {s : List UInt8} {i : Ins} (h : readI s = some i) : i.ok ∧ i.chk = true ∧ instT i = s := by
  unfold readI at h
  split at h
  · cases h
  · rename_i l hl
    obtain ⟨h1, h2, op, rfl⟩ := candF_is 33 1 h
    exact ⟨fillR_ok _ _ (opsF_ok _ _ _ _ hl), h1, h2⟩
set_option maxRecDepth 100000 in
set_option maxHeartbeats 16000000 in
theorem read_I (s : List UInt8) (hs : s.length ≤ 100000) : Ctr Tryz.prog 8 [tx s] [] Lw (readV (readI s)) := by
  have hC := cut_S s [32] (by omega)
  have hl3 := cut_len3 s [32] (by decide)
  have hop : opsOf s = opsF (s.length + 1) (Lib.cut s [32]).2.1 (Lib.cut s [32]).2.2 := rfl
  unfold readI
  generalize hR : opsOf s = R at *
  obtain ⟨name, rest0, has0, hcut0⟩ : ∃ a b c, Lib.cut s [32] = (a, b, c) := ⟨_, _, _, rfl⟩
  rw [hcut0] at hC hl3 hop ⊢
  simp only at hC hl3 hop ⊢
  refine Ctr.enter Tryz.func8 Tryz.ntmps8 rfl rfl (fun w hx => ?_)
  repeat (first | refine C.seq ?_ | refine C.region ?_ | refine L.nil ?_ | refine D.seq ?_ | refine L.move (k := ?_) | refine L.assign (k := ?_) | refine L.extract (c := ?_) | refine L.alloc (c := fun _ => ?_) | refine C.block ?_ | refine L.callQ hC (hpre := fun _ hw => hx.bel hw) (k := ?_))
  rename_i b2
  have hbig : ∀ x : Nat, x ≤ 200000 → x ≤ maxLen := fun x h => by unfold maxLen; omega
  refine C.loop (α := (List Opd × OS) × (List UInt8 × Bool)) (fun g => osG 1 g.1.1.length (vals g.1.1) g.1.2 ∧ g.1.1.length + (if g.2.2 then g.2.1.length + 1 else 0) ≤ s.length + 1 ∧ R = (opsF (s.length + 1) g.2.1 g.2.2).map (g.1.1 ++ ·))
    (fun g => [(0, tx s), (2, .pointer (some ⟨b2, 0, none⟩)), (4, tx name), (5, tx g.2.1), (6, .bool g.2.2), (7, osV g.1.1.length g.1.2)]) (fun g => (b2, ob ins0.cells 25) :: osC 45 g.1.2 []) (fun g => if g.2.2 then g.2.1.length + 1 else 0) (([], none), (rest0, has0))
    (fun a w hs => hs.lessE rfl (lk_cons rfl (lk_cons rfl (lk_cons rfl (lk_cons rfl (lk_cons rfl (lk_cons rfl (fun _ _ h => lk_nil h)))))))) ⟨osG.nil, by simp only; split <;> rename_i hb <;> simp only [List.length_nil] <;> first | (have := hl3 hb; omega) | omega, by rw [hop]; simp only [List.nil_append]; exact Option.map_id'.symm⟩ ?_
  rintro ⟨⟨acc, y⟩, r, has⟩ ⟨hG, hlen, hO⟩
  simp only at hG hlen hO
  dsimp only
  cases has with
  | true =>
    simp only [if_true] at hlen
    have hC := cut_S r [44, 32] (by omega)
    have hl1 := cut_len1 r [44, 32]
    have hl2 := cut_len2 r [44, 32]
    have hl3 := cut_len3 r [44, 32] (by decide)
    have hm1 := hbig (acc.length + 1) (by omega)
    unfold opsF at hO
    obtain ⟨one, r', has', hcut⟩ : ∃ a b c, Lib.cut r [44, 32] = (a, b, c) := ⟨_, _, _, rfl⟩
    rw [hcut] at hC hl1 hl2 hl3 hO
    simp only at hC hl1 hl2 hl3 hO
    have hRd := read_S one (by omega)
    cases hx1 : readR one with
    | none =>
      rw [hx1] at hRd hO
      have hRn : R = none := hO
      rw [hRn]
      repeat (first | refine C.seq ?_ | refine C.region ?_ | refine L.nil ?_ | refine D.seq ?_ | refine L.move (k := ?_) | refine L.assign (k := ?_) | refine L.extract (c := ?_) | refine C.yes (h1 := ?_) | refine C.block ?_ | refine C.skip ?_ | refine L.callQ hC (hpre := fun _ hw => hx.bel hw) (k := ?_))
      refine L.callP [] hRd (hpre := fun _ hw => hx.bel hw) (k := ?_)
      rintro u B ⟨rfl, rfl⟩
      rw [hdrop_nil, List.nil_append]
      repeat (first | refine C.seq ?_ | refine C.region ?_ | refine L.nil ?_ | refine D.seq ?_ | refine L.move (k := ?_) | refine L.assign (k := ?_) | refine L.storeV 0 (c := ?_) | refine L.extract (c := ?_) | refine L.build (c := ?_) | refine C.yes (h1 := ?_) | refine L.not (c := ?_) | refine C.ret ?_ | refine D.thenRet ?_ | refine D.blkRet ?_)
      refine D.ret (vs := [_, _]) (RV.cellA 0 rfl rfl rfl rfl rfl (RV.tmp rfl RV.nil)) ?_
      intro w' hw; exact Post.mk (is := []) hw List.nodup_nil rfl ⟨rfl, rfl⟩
    | some x =>
      rw [hx1] at hRd hO
      simp only at hO
      obtain ⟨T, u, hT⟩ : ∃ T u, x.val = .iface T u := by cases x <;> exact ⟨_, _, rfl⟩
      have hRd2 : Ctr Tryz.prog 31 [tx one] [] Lw (two (.iface T u) (.bool true)) := by rw [← hT]; exact hRd
      have hva : vals (acc ++ [x]) = vals acc ++ [.iface T u] := by unfold vals; rw [List.map_append, List.map_singleton, hT]
      have hla : (acc ++ [x]).length = acc.length + 1 := by simp
      clear hRd
      repeat (first | refine C.seq ?_ | refine C.region ?_ | refine L.nil ?_ | refine D.seq ?_ | refine L.move (k := ?_) | refine L.assign (k := ?_) | refine L.extract (c := ?_) | refine C.yes (h1 := ?_) | refine C.block ?_ | refine C.skip ?_ | refine L.callQ hC (hpre := fun _ hw => hx.bel hw) (k := ?_))
      refine L.callP [] hRd2 (hpre := fun _ hw => hx.bel hw) (k := ?_)
      rintro u' B ⟨rfl, rfl⟩
      rw [hdrop_nil, List.nil_append]
      repeat (first | refine C.seq ?_ | refine C.region ?_ | refine L.nil ?_ | refine D.seq ?_ | refine L.move (k := ?_) | refine L.assign (k := ?_) | refine L.extract (c := ?_) | refine C.no (h1 := ?_) | refine L.not (c := ?_) | refine C.skip ?_ | refine L.buildS (c := fun _ => ?_))
      rename_i nb
      refine L.appendU [_, _] (L2 := []) (y := y) (m := acc.length) (u := .slice (some ⟨nb, 0, none⟩) 1 1) (k := 1) (news := [.iface T u]) hG rfl (fun w hw => Rd.own (hw.holds _ List.mem_cons_self) (by simp) (Nat.le_refl _) 1 rfl) rfl (by intro v hv; obtain rfl := List.mem_singleton.1 hv; rfl) hm1 (by omega) (c := fun y' hG' _ => ?_)
      simp only [List.cons_append, List.nil_append]
      repeat (first | refine L.nil ?_ | refine L.assign (k := ?_) | refine D.blkNormal ?_)
      exact D.then_ fun a1 w1 hs => ⟨((acc ++ [x], y'), (r', has')), ⟨by rw [hla, hva]; exact hG', by
          simp only
          rw [hla]
          split
          · rename_i hb; have := hl3 hb; omega
          · omega, by
          simp only
          rw [hO, Option.map_map]
          rw [opsF_more s.length r' has' (fun hb => by have := hl3 hb; omega) (s.length + 1) (by omega)]
          refine congrArg (fun f => Option.map f _) (funext fun q => ?_)
          simp⟩, by
          simp only [if_true]
          split
          · rename_i hb; have := hl3 hb; omega
          · omega, by
          simp only
          rw [hla]
          exact hs.lessD 1 rfl (lk_cons rfl (lk_cons rfl (lk_cons rfl (lk_cons rfl (lk_cons rfl (lk_cons rfl (fun _ _ h => lk_nil h)))))))⟩
  | false =>
    have hRl : R = some acc := by rw [hO]; unfold opsF; simp
    have hoks : ∀ x ∈ acc, x.ok := by
      rw [hRl] at hop
      exact opsF_ok _ _ _ _ hop.symm
    rw [hRl]
    simp only [Bool.false_eq_true, if_false] at hlen ⊢
    repeat (first | refine C.seq ?_ | refine C.region ?_ | refine L.nil ?_ | refine D.seq ?_ | refine L.move (k := ?_) | refine L.assign (k := ?_) | refine C.no (h1 := ?_) | refine C.block ?_ | refine C.exit ?_ | refine D.thenExit ?_ | refine D.blkExit ?_ | refine D.seqR (h := ?_))
    obtain ⟨R2, hR2⟩ : ∃ R2, R2 = candF acc s name 33 1 := ⟨_, rfl⟩
    rw [← hR2]
    refine C.loop (α := Nat) (fun op => 1 ≤ op ∧ op ≤ 34 ∧ R2 = candF acc s name (34 - op) op)
      (fun op => [(0, tx s), (2, .pointer (some ⟨b2, 0, none⟩)), (4, tx name), (7, osV acc.length y), (11, .int .i64 (op : Int))]) (fun _ => (b2, ob ins0.cells 25) :: osC 45 y []) (fun op => 34 - op) 1
      (fun a w hs => hs.lessE rfl (lk_cons rfl (lk_cons rfl (lk_cons rfl (lk_cons rfl (lk_cons rfl (fun _ _ h => lk_nil h))))))) ⟨by omega, by omega, hR2⟩ ?_
    rintro op ⟨h1, h34, hcand⟩
    clear hR2
    dsimp only
    rcases Nat.lt_or_ge op 34 with hlt | hge
    · obtain ⟨f, hf⟩ : ∃ f, 34 - op = f + 1 := ⟨33 - op, by omega⟩
      have hf2 : 34 - (op + 1) = f := by omega
      rw [hf] at hcand
      unfold candF at hcand
      have c1 : cm .leq (op : Int) 33 = true := cm_le (by omega)
      have d1 : ar .add .i64 (op : Int) 1 = ((op + 1 : Nat) : Int) := i64_add (b := 1) (by omega)
      have hN := iname_S (op : Int)
      have hne := sne_tx (nameT (op : Int)) name
      by_cases e1 : nameT (op : Int) = name
      · rw [decide_eq_true e1] at hne
        have hF := fill_S (op : Int) (osV acc.length y) acc (by omega)
        have hI := inst_S (fillR op acc) (fillR_ok op acc hoks)
        unfold instR at hI
        generalize fillR (op : Int) acc = i at *
        by_cases e2 : i.chk = true
        · rw [if_pos e2] at hI
          have c3 : cm .eql 0 0 = true := rfl
          have heq := seq_tx (instT i) s
          by_cases e3 : instT i = s
          · rw [decide_eq_true e3] at heq
            rw [if_pos ⟨e1, e2, e3⟩] at hcand
            rw [hcand]
            repeat (first | refine C.seq ?_ | refine C.region ?_ | refine L.nil ?_ | refine D.seq ?_ | refine L.move (k := ?_) | refine L.cm (c := ?_) | refine L.loadA 0 (c := ?_) | refine L.storeV 0 (c := ?_) | refine L.alloc (c := fun _ => ?_) | refine C.yes (h1 := ?_) | refine C.no (h1 := ?_) | refine L.strNe (c := ?_) | refine C.block ?_ | refine C.skip ?_ | refine L.callQ (hN) (k := ?_) | refine L.callQ hF (hpre := fun _ hw => hG.rdm (T := 45) hw (fun x hx => List.mem_cons_of_mem _ hx)) (k := ?_))
            refine L.callP [] hI (hpre := fun _ hw => (hx.bel hw).1) (k := ?_)
            rintro u B ⟨rfl, rfl⟩
            rw [hdrop_nil, List.nil_append]
            repeat (first | refine C.seq ?_ | refine C.region ?_ | refine L.nil ?_ | refine D.seq ?_ | refine L.move (k := ?_) | refine L.assign (k := ?_) | refine L.cm (c := ?_) | refine L.loadA 0 (c := ?_) | refine L.storeV 1 (c := ?_) | refine L.extract (c := ?_) | refine C.yes (h1 := ?_) | refine L.pickT (k := ?_) | refine L.want (k := ?_) | refine L.strEq (c := ?_) | refine C.ret ?_ | refine D.thenRet ?_ | refine D.blkRet ?_)
            --@
            refine D.ret (vs := [_, _]) (RV.cellA 1 rfl rfl rfl rfl rfl (RV.tmp rfl RV.nil)) ?_
            intro w' hw; exact Post.mk (is := []) hw List.nodup_nil rfl ⟨rfl, rfl⟩
          · rw [decide_eq_false e3] at heq
            rw [if_neg (fun h => e3 h.2.2)] at hcand
            repeat (first | refine C.seq ?_ | refine C.region ?_ | refine L.nil ?_ | refine D.seq ?_ | refine L.move (k := ?_) | refine L.cm (c := ?_) | refine L.loadA 0 (c := ?_) | refine L.storeV 0 (c := ?_) | refine L.alloc (c := fun _ => ?_) | refine C.yes (h1 := ?_) | refine C.no (h1 := ?_) | refine L.strNe (c := ?_) | refine C.block ?_ | refine C.skip ?_ | refine L.callQ (hN) (k := ?_) | refine L.callQ hF (hpre := fun _ hw => hG.rdm (T := 45) hw (fun x hx => List.mem_cons_of_mem _ hx)) (k := ?_))
            refine L.callP [] hI (hpre := fun _ hw => (hx.bel hw).1) (k := ?_)
            rintro u B ⟨rfl, rfl⟩
            rw [hdrop_nil, List.nil_append]
            repeat (first | refine C.seq ?_ | refine C.region ?_ | refine L.nil ?_ | refine D.seq ?_ | refine L.move (k := ?_) | refine L.assign (k := ?_) | refine L.cm (c := ?_) | refine L.ar (c := ?_) | refine L.extract (c := ?_) | refine C.no (h1 := ?_) | refine L.pickT (k := ?_) | refine L.want (k := ?_) | refine L.strEq (c := ?_) | refine D.blkNormal ?_ | refine C.skip ?_)
            exact D.then_ fun a1 w1 hs => ⟨op + 1, ⟨by omega, by omega, by rw [hf2]; exact hcand⟩, by omega, hs.lessD 1 rfl (lk_cons rfl (lk_cons rfl (lk_cons rfl (lk_cons rfl (lk_cons rfl (fun _ _ h => lk_nil h))))))⟩
        · rw [if_neg e2] at hI
          have c3 : cm .eql 2 0 = false := rfl
          rw [if_neg (fun h => e2 h.2.1)] at hcand
          repeat (first | refine C.seq ?_ | refine C.region ?_ | refine L.nil ?_ | refine D.seq ?_ | refine L.move (k := ?_) | refine L.cm (c := ?_) | refine L.loadA 0 (c := ?_) | refine L.storeV 0 (c := ?_) | refine L.alloc (c := fun _ => ?_) | refine C.yes (h1 := ?_) | refine C.no (h1 := ?_) | refine L.strNe (c := ?_) | refine C.block ?_ | refine C.skip ?_ | refine L.callQ (hN) (k := ?_) | refine L.callQ hF (hpre := fun _ hw => hG.rdm (T := 45) hw (fun x hx => List.mem_cons_of_mem _ hx)) (k := ?_))
          refine L.callP [] hI (hpre := fun _ hw => (hx.bel hw).1) (k := ?_)
          rintro u B ⟨rfl, rfl⟩
          rw [hdrop_nil, List.nil_append]
          repeat (first | refine C.seq ?_ | refine C.region ?_ | refine L.nil ?_ | refine D.seq ?_ | refine L.move (k := ?_) | refine L.assign (k := ?_) | refine L.cm (c := ?_) | refine L.ar (c := ?_) | refine L.extract (c := ?_) | refine C.no (h1 := ?_) | refine L.pickF (k := ?_) | refine L.pass (k := ?_) | refine D.blkNormal ?_ | refine C.skip ?_)
          exact D.then_ fun a1 w1 hs => ⟨op + 1, ⟨by omega, by omega, by rw [hf2]; exact hcand⟩, by omega, hs.lessD 1 rfl (lk_cons rfl (lk_cons rfl (lk_cons rfl (lk_cons rfl (lk_cons rfl (fun _ _ h => lk_nil h))))))⟩
      · rw [decide_eq_false e1] at hne
        rw [if_neg (fun h => e1 h.1)] at hcand
        repeat (first | refine C.seq ?_ | refine C.region ?_ | refine L.nil ?_ | refine D.seq ?_ | refine L.move (k := ?_) | refine L.assign (k := ?_) | refine L.cm (c := ?_) | refine L.ar (c := ?_) | refine C.yes (h1 := ?_) | refine L.strNe (c := ?_) | refine C.block ?_ | refine C.exit ?_ | refine D.thenExit ?_ | refine D.blkExit ?_ | refine C.skip ?_ | refine L.callQ (hN) (k := ?_))
        exact D.then_ fun a1 w1 hs => ⟨op + 1, ⟨by omega, by omega, by rw [hf2]; exact hcand⟩, by omega, hs.lessE rfl (lk_cons rfl (lk_cons rfl (lk_cons rfl (lk_cons rfl (lk_cons rfl (fun _ _ h => lk_nil h))))))⟩
    · obtain rfl : op = 34 := by omega
      have c1 : cm .leq ((34 : Nat) : Int) 33 = false := rfl
      have hcn : R2 = none := hcand
      rw [hcn]
      repeat (first | refine C.seq ?_ | refine C.region ?_ | refine L.nil ?_ | refine D.seq ?_ | refine L.move (k := ?_) | refine L.assign (k := ?_) | refine L.cm (c := ?_) | refine L.storeV 0 (c := ?_) | refine L.build (c := ?_) | refine C.no (h1 := ?_) | refine C.ret ?_ | refine C.exit ?_ | refine D.thenExit ?_ | refine D.blkExit ?_ | refine D.seqR (h := ?_))
      refine D.ret (vs := [_, _]) (RV.cellA 0 rfl rfl rfl rfl rfl (RV.tmp rfl RV.nil)) ?_
      intro w' hw; exact Post.mk (is := []) hw List.nodup_nil rfl ⟨rfl, rfl⟩
end Go.Proofs.YtokcamgipnaoeaaGreatDoor.Ls
