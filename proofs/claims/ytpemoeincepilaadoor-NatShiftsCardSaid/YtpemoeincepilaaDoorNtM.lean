/- nat.Read: what it answers, told by the text in low letters. Conditions: at most 200000 bytes. -/
import Derived.Test.YtpemoeincepilaaDoorNtK
import Derived.Test.YtpemoeincepilaaDoorNtJ
set_option linter.unusedVariables false
set_option linter.unusedSimpArgs false
namespace Go.Proofs.YtpemoeincepilaaDoor.Nt
open Go Go.RowKit SL
attribute [local irreducible] SL.L SL.C SL.D SL.N SL.H SL.QL SL.QW SL.QP

theorem seq_no {s : ByteArray} (h : s.size ≠ 0) : seq s ⟨#[]⟩ = false := by
  cases hq : seq s ⟨#[]⟩ with
  | false => rfl
  | true =>
    unfold seq at hq
    rw [ByteArray.toList_eq, ByteArray.toList_eq] at hq
    have e : s.data.toList = [] := by simpa using hq
    have e2 := congrArg List.length e
    exact absurd (show s.size = 0 from e2) h
theorem seq_yes {s : ByteArray} (h : s.size = 0) : seq s ⟨#[]⟩ = true := by
  have e : s = ⟨#[]⟩ := by
    obtain ⟨d⟩ := s
    have : d = #[] := Array.eq_empty_of_size_eq_zero h
    rw [this]
  rw [e]; unfold seq; simp
theorem all_take {t : List UInt8} {k : Nat} {c : UInt8} (h : ∀ x ∈ t.take k, hx x.toNat < 16) (hk : t[k]? = some c) (hc : hx c.toNat < 16) : ∀ x ∈ t.take (k + 1), hx x.toNat < 16 := by
  intro x hx'
  rw [List.take_add_one, hk] at hx'
  rcases List.mem_append.1 hx' with h1 | h1
  · exact h x h1
  · obtain rfl : x = c := by simpa using h1
    exact hc
theorem enc8_get {t : List UInt8} {k : Nat} {c : UInt8} (hk : t[k]? = some c) : (enc8 t)[k]? = some (.int .u8 (c.toNat : Int)) := by unfold enc8; rw [List.getElem?_map, hk]; rfl
def digT (t : List UInt8) : List Nat := t.map fun c => hx c.toNat
set_option maxRecDepth 100000 in
set_option maxHeartbeats 16000000 in
theorem read_S (s : ByteArray) (t : List UInt8) (pre : World → Prop) (hst : ∀ w w', pre w → At w [] [] w' → pre w') (hlen : t.length ≤ 200000) (hne : s.size ≠ 0 → t ≠ [])
    (hL : Ctr Tryd.prog 46 [.string s] [] pre (is (.string ⟨t.toArray⟩) [])) : Ctr Tryd.prog 12 [.string s] [] pre (natE (readE s.size t).1 (readE s.size t).2) := by
  have hc0 : (can 0).length = 0 := by rw [can_zero]; rfl
  refine Ctr.enterM Tryd.func12 Tryd.ntmps12 rfl rfl (fun w hp => ?_)
  have nilE : ∀ e : Int, (natE 0 e) (shut [osV 0 none, .int .i64 e]) [] := fun e => ⟨none, by rw [can_zero]; exact osG.nil, by rw [hc0], rfl⟩
  by_cases hs0 : s.size = 0
  · have hq := seq_yes hs0
    have hr : readE s.size t = (0, 2) := by unfold readE; rw [if_pos hs0]
    rw [hr]
    repeat (first | refine L.strEq (hz := hq) (c := ?_) | refine C.seq ?_ | refine C.region ?_ | refine L.nil ?_ | refine D.seq ?_ | refine L.move (k := ?_) | refine L.assign (k := ?_) | refine C.yes (h1 := ?_) | refine C.ret ?_ | refine D.thenRet ?_)
    exact D.retM (vs := [osV 0 none, .int .i64 2]) [] [] (by exact rfl) (by decide) (by exact rfl) (RV.tmp rfl (RV.tmp rfl RV.nil)) (fun w' hw => Post.mk (is := []) hw List.nodup_nil rfl (nilE 2))
  have hq := seq_no hs0
  have ht0 := hne hs0
  have hsz : (⟨t.toArray⟩ : ByteArray).size = t.length := rfl
  repeat (first | refine L.strEq (hz := hq) (c := ?_) | refine C.seq ?_ | refine C.region ?_ | refine L.nil ?_ | refine D.seq ?_ | refine L.move (k := ?_) | refine L.assign (k := ?_) | refine C.no (h1 := ?_) | refine C.skip ?_ | refine L.callQ hL (hpre := fun w' hw => hst _ _ hp hw) (k := ?_))
  refine L.bytesR (k := ?_)
  intro vb w1 h1 rb
  have hd8 : (⟨t.toArray⟩ : ByteArray).data.toList = t := rfl
  rw [hsz, hd8] at rb
  have sb := rb.1
  repeat (first | refine L.nil ?_ | refine L.move (k := ?_) | refine C.block ?_ | refine D.seqR (h := ?_) | refine L.lenR sb (c := ?_))
  refine C.loop (α := Nat × OS) (fun g => g.1 ≤ t.length ∧ osG 1 g.1 (u64s ((digT t).take g.1)) g.2 ∧ ∀ x ∈ t.take g.1, hx x.toNat < 16) (fun g => [(4, osV g.1 g.2), (17, vb), (18, .int .i64 t.length), (19, .int .i64 (g.1 : Int))]) (fun g => osC 34 g.2 []) (fun g => t.length - g.1) (0, none)
    (fun a w hs => hs.lessE rfl (lk_cons rfl (lk_cons rfl (lk_cons rfl (lk_cons rfl (fun _ _ h => lk_nil h)))))) ⟨Nat.zero_le _, osG.nil, fun x hx => by simp at hx⟩ ?_
  rintro ⟨k, y⟩ ⟨hk, hG, hall⟩
  simp only at hk hG hall
  dsimp only
  rcases Nat.lt_or_ge k t.length with hlt | hge
  · have c1 : cm .lss (k : Int) t.length = true := cm_lo (by omega)
    have c2 : ar .add .i64 (k : Int) 1 = ((k + 1 : Nat) : Int) := i64_add (b := 1) (by omega)
    obtain ⟨c, hc⟩ : ∃ c, t[k]? = some c := ⟨_, List.getElem?_eq_getElem hlt⟩
    have ob0 := rb.2 (by omega)
    have kc := enc8_get hc
    have hI := index_S c
    by_cases hb : hx c.toNat < 16
    · have e1 : hxI c.toNat = (hx c.toNat : Int) := if_pos hb
      rw [e1] at hI
      have c3 : cm .lss (hx c.toNat : Int) 0 = false := cm_lo' (by omega)
      have c4 : IntKind.u64.wrap (hx c.toNat : Int) = (hx c.toNat : Int) := u64_wrap (by omega)
      have hm1 : k + 1 ≤ maxLen := by unfold maxLen; omega
      repeat (first | refine L.convI (hz := c4) (c := ?_) | refine C.seq ?_ | refine C.region ?_ | refine L.nil ?_ | refine D.seq ?_ | refine L.move (k := ?_) | refine L.assign (k := ?_) | refine L.cm (c := ?_) | refine C.yes (h1 := ?_) | refine C.no (h1 := ?_) | refine C.block ?_ | refine C.skip ?_ | refine L.buildS (c := fun _ => ?_) | refine L.indexR sb hlt (c := ?_) | refine L.loadF ob0 kc (ho := by simp) (c := ?_) | refine L.callQ (hI) (k := ?_))
      rename_i nb
      refine L.appendU [_] (L2 := []) (y := y) (m := k) (u := .slice (some ⟨nb, 0, none⟩) 1 1) (k := 1) (news := [.int .u64 (hx c.toNat : Int)]) hG rfl (fun w hw => Rd.own (hw.holds _ List.mem_cons_self) (by simp) (Nat.le_refl _) 1 rfl) rfl (u64s_ones [hx c.toNat]) hm1 (by omega) (c := fun y' hG' _ => ?_)
      simp only [List.cons_append, List.nil_append]
      repeat (first | refine C.region ?_ | refine L.nil ?_ | refine L.move (k := ?_) | refine L.assign (k := ?_) | refine L.ar (c := ?_) | refine D.blkNormal ?_ | refine D.seqR (h := ?_))
      refine D.then_ fun a1 w1 hs => ⟨(k + 1, y'), ⟨hlt, ?_, all_take hall hc hb⟩, by simp only; omega, hs.lessD 1 rfl (lk_cons rfl (lk_cons rfl (lk_cons rfl (lk_cons rfl (fun _ _ h => lk_nil h)))))⟩
      have e2 : (digT t).take (k + 1) = (digT t).take k ++ [hx c.toNat] := by unfold digT; rw [List.take_add_one, List.getElem?_map, hc]; rfl
      rw [e2, u64s_app]; exact hG'
    · have e1 : hxI c.toNat = -1 := if_neg hb
      rw [e1] at hI
      have c3 : cm .lss (-1 : Int) 0 = true := rfl
      have hr : readE s.size t = (0, 7) := by
        unfold readE; rw [if_neg hs0, if_neg (fun h => hb (h c (List.mem_of_getElem? hc)))]
      rw [hr]
      repeat (first | refine C.seq ?_ | refine C.region ?_ | refine L.nil ?_ | refine D.seq ?_ | refine L.move (k := ?_) | refine L.assign (k := ?_) | refine L.cm (c := ?_) | refine C.yes (h1 := ?_) | refine C.block ?_ | refine C.ret ?_ | refine D.thenRet ?_ | refine D.blkRet ?_ | refine C.skip ?_ | refine L.indexR sb hlt (c := ?_) | refine L.loadF ob0 kc (ho := by simp) (c := ?_) | refine L.callQ (hI) (k := ?_))
      exact D.retM (vs := [osV 0 none, .int .i64 7]) [] [] (by exact rfl) (by decide) (by exact rfl) (RV.tmp rfl (RV.tmp rfl RV.nil)) (fun w' hw => Post.mk (is := []) (At.back (B := []) h1 hw) List.nodup_nil rfl (nilE 7))
  have c1 : cm .lss (k : Int) t.length = false := cm_lo' (by omega)
  obtain rfl : k = t.length := by omega
  have hall' : ∀ x ∈ t, hx x.toNat < 16 := fun x hx => hall x (by rw [List.take_length]; exact hx)
  have hD : ∀ d ∈ digT t, d < 16 := fun d hd => by
    obtain ⟨c, hc, rfl⟩ := List.mem_map.1 hd
    exact hall' c hc
  have hdl : (digT t).length = t.length := by unfold digT; simp
  rw [List.take_of_length_le (by rw [hdl]; exact Nat.le_refl _)] at hG
  have hr : readE s.size t = if 8192 < ndig (rdN (digT t)) then (0, 3) else (rdN (digT t), 0) := by
    unfold readE; rw [if_neg hs0, if_pos hall']; rfl
  rw [hr]
  obtain ⟨q1, q2, q3, q4⟩ := trim_dig hD
  rcases y with _ | ⟨b, l, cap⟩
  · have := hG.1
    exact absurd (List.eq_nil_of_length_eq_zero this) ht0
  obtain ⟨g1, g2, g3, g4⟩ := hG
  rw [Nat.mul_one] at g1 g4
  have gint : ∀ p, p < t.length → ∃ z, l[p]? = some (.int .u64 z) := fun p hp => by
    have e1 : (u64s (digT t))[p]? = l[p]? := by rw [← g4, List.getElem?_take, if_pos hp]
    have e2 := u64s_get (get_lmb (l := digT t) (i := p) (by omega))
    exact ⟨_, e1.symm.trans e2⟩
  have hR := reverse_S b l t.length cap (by omega) (by omega) gint
  have hT := rtrim_S (digT t).reverse q1 (by rw [List.length_reverse]; omega) (.slice (some ⟨b, 0, none⟩) t.length cap)
  simp only [osV, osC]
  repeat (first | refine C.seq ?_ | refine C.region ?_ | refine L.nil ?_ | refine D.seq ?_ | refine L.move (k := ?_) | refine L.cm (c := ?_) | refine C.no (h1 := ?_) | refine C.exit ?_ | refine D.thenExit ?_ | refine D.blkExit ?_ | refine D.seqR (h := ?_) | (refine L.callD 0 hR (hpre := fun _ _ => g2) (k := ?_); rintro v B ⟨rfl, l', hl', hl2, rfl⟩; simp only [List.take_succ_cons, List.take_zero, List.take_nil, List.cons_append, List.nil_append]))
  have hl3 : l'.take t.length = u64s (digT t).reverse := by
    refine List.ext_getElem? fun p => ?_
    rw [List.getElem?_take]
    by_cases hp : p < t.length
    · rw [if_pos hp, hl2 p, if_pos hp]
      have e1 : (u64s (digT t))[t.length - 1 - p]? = l[t.length - 1 - p]? := by rw [← g4, List.getElem?_take, if_pos (by omega)]
      rw [← e1]
      unfold u64s
      rw [List.getElem?_map, List.getElem?_map, List.getElem?_reverse (by omega), hdl]
    · rw [if_neg hp]
      exact (List.getElem?_eq_none (by rw [u64s_len, List.length_reverse]; omega)).symm
  refine L.callP [] hT (hpre := fun w hw => by unfold RdN; rw [List.length_reverse, hdl]; exact Rd.own (hw.holds _ List.mem_cons_self) (by simp) g2 t.length hl3) (k := ?_)
  rintro v' B ⟨v1, hu, rfl, s', hb'⟩
  obtain rfl : v' = v1 := hu
  rw [hdrop_nil, List.nil_append]
  refine L.base [(b, ob l' 34)] (M' := []) rfl (fun w2 h2 => ?_)
  have r2 : RdN w2 [] v' (can (lv (digT t).reverse)) := trim_rd q1 s' hb' (by unfold RdN; rw [List.length_reverse, hdl]; exact Rd.own (h2.holds _ List.mem_cons_self) (by simp) g2 t.length hl3)
  have hTl : (can (lv (digT t).reverse)).length ≤ t.length := by have := can_le q1; rw [List.length_reverse, hdl] at this; exact this
  rw [q3]
  obtain ⟨T, hTT⟩ : ∃ T, T = can (lv (digT t).reverse) := ⟨_, rfl⟩
  rw [← hTT] at r2 q2 q4 hTl s' ⊢
  unfold RdN at r2
  rcases Nat.lt_or_ge 8192 T.length with h8 | h8
  · rw [if_pos h8]
    have d1 : cm .gtr (T.length : Int) 8192 = true := cm_gt (by omega)
    repeat (first | refine C.seq ?_ | refine C.region ?_ | refine L.nil ?_ | refine D.seq ?_ | refine L.move (k := ?_) | refine L.assign (k := ?_) | refine L.cm (c := ?_) | refine C.yes (h1 := ?_) | refine C.ret ?_ | refine D.thenRet ?_ | refine D.seqR (h := ?_) | refine L.lenR s' (c := ?_))
    exact D.retM (vs := [osV 0 none, .int .i64 3]) [] [] (by exact rfl) (by decide) (by exact rfl) (RV.tmp rfl (RV.tmp rfl RV.nil)) (fun w' hw => Post.mk (is := []) (At.back (B := []) h1 (At.back (B := [(b, ob l' 34)]) h2 hw)) List.nodup_nil rfl (nilE 3))
  rw [if_neg (by omega)]
  have d1 : cm .gtr (T.length : Int) 8192 = false := cm_gt' (by omega)
  have hC := chunk_S v' T.length s'
  repeat (first | refine C.seq ?_ | refine C.region ?_ | refine L.nil ?_ | refine D.seq ?_ | refine L.move (k := ?_) | refine L.assign (k := ?_) | refine L.cm (c := ?_) | refine L.alloc (c := fun _ => ?_) | refine C.no (h1 := ?_) | refine C.block ?_ | refine C.skip ?_ | refine D.seqR (h := ?_) | refine L.lenR s' (c := ?_) | (refine L.callP [] hC (by exact rfl) (by exact rfl) (by exact rfl) (by decide) (fun _ _ => trivial) ?_; rintro u B ⟨bl, bn, rfl, rfl⟩; rw [hdrop_nil]; simp only [List.cons_append, List.nil_append]))
  rename_i bo
  refine C.rangeO (α := Nat) (β := OS × List Nat) (by exact rfl) (by exact rfl) (fun x => [ckV v' T.length x]) [2] (by exact rfl) (by decide) (V := fun pre x => x = pre.length ∧ 16 * x < T.length) (S := fun xs => 16 * xs.length < T.length + 16 ∧ T.length ≤ 16 * xs.length) (Sp := fun _ => True)
    (fun w' hw' => by
      obtain ⟨s1, s2, s3, s4, s5⟩ := six (X := [_, _]) hw'
      exact chunk1_seq T.length (by omega) v' s' w' bl bn s1 s2 _ s3)
    (fun _ => rfl) (by exact rfl) (fun pre y => osG 1 y.2.length (u64s y.2) y.1 ∧ y.2.length = pre.length ∧ okL y.2 ∧ lv y.2 = rdN (T.take (16 * pre.length)).reverse) (fun pre y => (bo, ob [osV y.2.length y.1] 23) :: osC 34 y.1 [])
    (fun _ _ _ => False) (fun _ _ _ => []) (fun pre y => by obtain ⟨_ | ⟨_, _, _⟩, _⟩ := y <;> rfl) (fun _ _ _ => rfl) (none, []) ⟨osG.nil, rfl, (fun _ h => by cases h), rfl⟩ (by exact rfl) ?_ ?_ ?_
  · rintro lb w3 W rec pre x ⟨y, o⟩ hw3 hA ⟨hG, hol, hok, hv⟩ ⟨rfl, hxn⟩ hlb
    simp only at hG hol hok hv
    have rT := Rd.round r2 hw3 hA (fun x hx => List.mem_cons_of_mem _ (List.mem_cons_of_mem _ hx)) hlb
    obtain ⟨cs, hCC⟩ : ∃ cs, cs = (T.drop (16 * pre.length)).take 16 := ⟨_, rfl⟩
    have hCl : cs.length = min 16 (T.length - 16 * pre.length) := by rw [hCC, List.length_take, List.length_drop]
    have hC16 : ∀ d ∈ cs, d < 16 := fun d hd => by rw [hCC] at hd; exact q4 d (List.mem_of_mem_drop (List.mem_of_mem_take hd))
    obtain ⟨hps1, hps2⟩ := piece_step q4 hxn hol hok hv
    rw [← hCC] at hps1 hps2
    have rC : Rd W (lb :: keys ((bo, ob [osV o.length y] 23) :: osC 34 y [])) (ckV v' T.length pre.length) cs.length (u64s cs) := by
      have := Rd.sub (lo := 16 * pre.length) (hi := 16 * pre.length + min 16 (T.length - 16 * pre.length)) (sz := 1) (v' := ckV v' T.length pre.length) (l' := u64s cs) rT (by omega) (SlV.mk _ _ (Nat.le_refl _)) (fun _ => ⟨rfl, rfl⟩) (fun i u hu => by
        rw [hCC] at hu
        unfold u64s at hu ⊢
        rw [List.getElem?_map, List.getElem?_take] at hu
        split at hu
        · rw [List.getElem?_drop] at hu
          rw [List.getElem?_map, Nat.mul_one]; exact hu
        · cases hu)
      rw [show 16 * pre.length + min 16 (T.length - 16 * pre.length) - 16 * pre.length = cs.length by omega] at this
      exact this
    have sC := rC.1
    obtain ⟨V, hVV⟩ : ∃ V, V = ckV v' T.length pre.length := ⟨_, rfl⟩
    rw [← hVV] at rC sC
    have hm1 : o.length + 1 ≤ maxLen := by unfold maxLen; omega
    refine C.perm (M' := (lb, .loop rec) :: (bo, ob [osV o.length y] 23) :: osC 34 y []) ((List.perm_append_singleton _ _).symm) ?_
    simp only [pe, List.cons_append, List.nil_append]
    rw [← hVV]
    repeat (first | refine C.seq ?_ | refine C.region ?_ | refine L.nil ?_ | refine D.seq ?_ | refine L.move (k := ?_) | refine L.assign (k := ?_) | refine C.block ?_ | refine D.begin 0 (by exact rfl) (by simp only [hset]; rfl) (by exact rfl) ?_ | refine L.lenR sC (c := ?_))
    refine C.loop (α := Nat) (fun k => k ≤ cs.length) (fun k => [(8, .pointer (some ⟨bo, 0, none⟩)), (10, .int .u64 (rdN (cs.take k).reverse : Int)), (43, V), (44, .int .i64 cs.length), (45, .int .i64 (k : Int))]) (fun _ => (lb, .loop { rec with state := .busy }) :: (bo, ob [osV o.length y] 23) :: osC 34 y []) (fun k => cs.length - k) 0
      (fun a w hs => hs.lessE rfl (lk_cons rfl (lk_cons rfl (lk_cons rfl (lk_cons rfl (lk_cons rfl (fun _ _ h => lk_nil h))))))) (Nat.zero_le _) ?_
    intro k hk
    rcases Nat.lt_or_ge k cs.length with hlt | hge
    · obtain ⟨d, hd⟩ : ∃ d, cs[k]? = some d := ⟨_, List.getElem?_eq_getElem hlt⟩
      obtain ⟨o1, o2, o3⟩ := dig_or hC16 hd (by omega)
      have oC := rC.2 (by omega)
      have kd := u64s_get hd
      have hp60 : 2 ^ (4 * k) ≤ 2 ^ 60 := Nat.pow_le_pow_right (by omega) (by omega)
      have f1 : cm .lss (k : Int) cs.length = true := cm_lo (by omega)
      have f2 : ar .add .i64 (k : Int) 1 = ((k + 1 : Nat) : Int) := i64_add (b := 1) (by omega)
      have f3 : ar .mul .i64 4 (k : Int) = ((4 * k : Nat) : Int) := i64_mulL (a := 4) (by omega)
      have f4 : arOk .shl .u64 .i64 ((4 * k : Nat) : Int) = true := decide_eq_true (p := (0 : Int) ≤ ((4 * k : Nat) : Int)) (by omega)
      have f5 : ar .shl .u64 (d : Int) ((4 * k : Nat) : Int) = ((d * 2 ^ (4 * k) : Nat) : Int) := by rw [ar_shlN d (4 * k) (by omega), Nat.mod_eq_of_lt o2]
      have f6 : ar .or .u64 (rdN (cs.take k).reverse : Int) ((d * 2 ^ (4 * k) : Nat) : Int) = (rdN (cs.take (k + 1)).reverse : Int) := by rw [o3]; exact ar_orN _ _ (by omega) o2
      repeat (first | refine L.ar (op := .shl) (ho := f4) (hz := f5) (c := ?_) | refine C.seq ?_ | refine C.region ?_ | refine L.nil ?_ | refine D.seq ?_ | refine L.move (k := ?_) | refine L.assign (k := ?_) | refine L.cm (c := ?_) | refine L.ar (c := ?_) | refine C.yes (h1 := ?_) | refine C.block ?_ | refine D.blkNormal ?_ | refine C.skip ?_ | refine L.indexR sC hlt (c := ?_) | refine L.loadF oC kd (ho := by simp) (c := ?_))
      exact D.then_ fun a1 w1 hs => ⟨k + 1, hlt, by omega, hs.lessE rfl (lk_cons rfl (lk_cons rfl (lk_cons rfl (lk_cons rfl (lk_cons rfl (fun _ _ h => lk_nil h))))))⟩
    · have f1 : cm .lss (k : Int) cs.length = false := cm_lo' (by omega)
      rw [List.take_of_length_le hge]
      repeat (first | refine C.seq ?_ | refine C.region ?_ | refine L.nil ?_ | refine D.seq ?_ | refine L.move (k := ?_) | refine L.cm (c := ?_) | refine L.load1 1 (c := ?_) | refine C.no (h1 := ?_) | refine C.exit ?_ | refine D.thenExit ?_ | refine D.blkExit ?_ | refine L.buildS (c := fun _ => ?_))
      rename_i nb
      refine L.appendU [_, _, _] (L2 := []) (y := y) (m := o.length) (u := .slice (some ⟨nb, 0, none⟩) 1 1) (k := 1) (news := [.int .u64 (rdN cs.reverse : Int)]) hG rfl (fun w hw => Rd.own (hw.holds _ List.mem_cons_self) (by simp) (Nat.le_refl _) 1 rfl) rfl (u64s_ones [rdN cs.reverse]) hm1 (by omega) (c := fun y' hG' _ => ?_)
      simp only [List.cons_append, List.nil_append]
      repeat (first | refine L.storeV 0 (hc := osV_cells _ _) (ho := osV_one _ _) (c := ?_) | refine L.storeV 1 (hc := osV_cells _ _) (ho := osV_one _ _) (c := ?_) | refine L.storeV 2 (hc := osV_cells _ _) (ho := osV_one _ _) (c := ?_) | refine L.storeV 3 (hc := osV_cells _ _) (ho := osV_one _ _) (c := ?_) | refine L.storeV 4 (hc := osV_cells _ _) (ho := osV_one _ _) (c := ?_) | refine L.storeV 5 (hc := osV_cells _ _) (ho := osV_one _ _) (c := ?_) | refine L.storeV 6 (hc := osV_cells _ _) (ho := osV_one _ _) (c := ?_) | refine L.storeV 7 (hc := osV_cells _ _) (ho := osV_one _ _) (c := ?_) | refine L.nil ?_ | refine D.blkNormal ?_)
      have hG2 : osG 1 (o ++ [rdN cs.reverse]).length (u64s (o ++ [rdN cs.reverse])) y' := by rw [u64s_app, List.length_append]; exact hG'
      rcases y' with _ | ⟨p1, z1, s1⟩
      · have := hG'.1; omega
      refine D.next (some (p1, z1, s1), o ++ [rdN cs.reverse]) [2, 3, 1] ⟨hG2, by rw [List.length_append, List.length_append, hol]; rfl, hps1, by rw [List.length_append]; exact hps2⟩ (by decide) ?_
      simp only [List.length_append]; rfl
  · rintro Db xs ⟨y, o⟩ hS ⟨hG, hol, hok, hv⟩
    have hS' : T.length ≤ 16 * xs.length := hS.2
    have hS2 : 16 * xs.length < T.length + 16 := hS.1
    simp only at hG hol hok hv
    rw [List.take_of_length_le hS', q2] at hv
    have hT2 := trim_S o hok (by omega) (osV o.length y)
    rw [hv] at hT2
    rcases y with _ | ⟨yb, yl, yc⟩
    all_goals
      simp only [hdrop, List.cons_append, List.nil_append, osC]
      repeat (first | refine C.seq ?_ | refine C.region ?_ | refine L.load1 1 (c := ?_) | refine D.blkNormal ?_ | refine D.seqR (h := ?_))
      refine L.callP [] hT2 (by exact rfl) (by exact rfl) (by exact rfl) (by decide) (fun w hw => hG.rdm (T := 34) hw (by simp [osC])) ?_
      rintro u B ⟨y2, hG2, rfl, rfl⟩
      rw [hdrop_nil]
      rcases y2 with _ | ⟨p1, z1, s1⟩
      · simp only [osC, List.nil_append, List.cons_append]
        repeat (first | refine L.nil ?_ | refine L.assign (k := ?_) | refine C.ret ?_ | refine D.seqR (h := ?_))
        exact D.retM (vs := [osV (can (rdN (digT t))).length none, .int .i64 0]) [Db] [0] (by exact rfl) (by decide) (by exact rfl) (RV.tmp rfl (RV.tmp rfl RV.nil)) (fun w' hw => Post.mk (is := []) (At.back (B := []) h1 (At.back (B := [(b, ob l' 34)]) h2 hw)) (by decide) rfl ⟨none, hG2, rfl, rfl⟩)
      · simp only [osC, List.nil_append, List.cons_append]
        repeat (first | refine L.nil ?_ | refine L.assign (k := ?_) | refine C.ret ?_ | refine D.seqR (h := ?_))
        exact D.retM (vs := [osV (can (rdN (digT t))).length (some (p1, z1, s1)), .int .i64 0]) [Db] [1] (by exact rfl) (by decide) (by exact rfl) (RV.tmp rfl (RV.tmp rfl RV.nil)) (fun w' hw => Post.mk (is := [0]) (At.back (B := []) h1 (At.back (B := [(b, ob l' 34)]) h2 hw)) (by decide) rfl ⟨some (p1, z1, s1), hG2, rfl, rfl⟩)
  · intro Db c pre y _ h; exact h.elim
end Go.Proofs.YtpemoeincepilaaDoor.Nt
