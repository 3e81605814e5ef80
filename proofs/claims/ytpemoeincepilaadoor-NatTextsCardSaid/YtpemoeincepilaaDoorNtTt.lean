/- nat.Read of whatever text; the law NatTexts: its walk. Conditions: limbs are numbers of 64 bits; the tables of unicode lie as they are laid. -/
import Derived.Test.YtpemoeincepilaaDoorNtTx
set_option linter.unusedVariables false
set_option linter.unusedSimpArgs false
namespace Go.Proofs.YtpemoeincepilaaDoor.Nt
open Go Go.RowKit SL Go.Shelf
attribute [local irreducible] SL.L SL.C SL.D SL.N SL.H SL.QL SL.QW SL.QP

theorem textS (l : List Nat) (t : List UInt8) (hl : nt l) (h : text8 (lv l) = t) (v : Value) : Ctr Tryd.prog 11 [v] [] (fun w => RdN w [] v l) (is (.string ⟨t.toArray⟩) []) := by
  subst h; exact text_S l hl.1 (by have := hl.2; omega) v
/-- The tables that ToLower reads. -/
def Tabs (w : World) : Prop := Lib.CaseVar (Tryd.lowerLay_ren.g 13) Lib.caseA w ∧ Lib.Utf8Tabs (Tryd.lowerLay_ren.g 3) (Tryd.lowerLay_ren.g 4) w
theorem Tabs.at {w w' : World} (h : Tabs w) (hw : At w [] [] w') : Tabs w' := ⟨Lib.CaseVar_below h.1 hw.keeps.below, Utf8Tabs_below h.2 hw.keeps.below⟩
theorem Tabs.bel {w w' : World} {M : Hp} (h : Tabs w) (hw : At w [] M w') : Tabs w' := ⟨Lib.CaseVar_below h.1 hw.keeps.below, Utf8Tabs_below h.2 hw.keeps.below⟩
theorem lowG_S (s : ByteArray) (hs : s.size < 35184372088832) : Ctr Tryd.prog 46 [.string s] [] Tabs (is (.string ⟨(Lib.toLowerD s.data.toList).toArray⟩) []) :=
  spec_n (fun w hp => Any.strings_ToLower_any Tryd.lowerLay Tryd.lowerExtra s w hs hp.1 hp.2)
theorem mapGo_len (f : Int → Int) : ∀ (n : Nat) (l : List UInt8), (Lib.mapGoD f n l).length ≤ 4 * n
  | 0, _ => Nat.zero_le _
  | n + 1, l => by
    unfold Lib.mapGoD
    split
    · simp
    · have h := mapGo_len f n (l.drop (Lib.decodeL l).2)
      have h4 : ∀ v : Int, (Lib.encodeRune v).length ≤ 4 := fun v => by
        unfold Lib.encodeRune Lib.encodeRuneZ
        rw [List.length_map]
        repeat' split
        all_goals simp
      rw [List.length_append]
      split
      · have := h4 (f (Lib.decodeL l).1); omega
      · simp; omega
theorem toLowerD_len (l : List UInt8) : (Lib.toLowerD l).length ≤ 4 * l.length := mapGo_len _ _ _
theorem toLowerD_ne {l : List UInt8} (h : l ≠ []) : Lib.toLowerD l ≠ [] := by
  by_cases ha : ∀ b ∈ l, b.toNat < 128
  · rw [Lib.toLowerD_ascii _ ha]
    unfold Lib.toLowerA
    simpa using h
  · have hb : ∃ b ∈ l, 128 ≤ b.toNat := by
      apply Classical.byContradiction
      intro hn
      exact ha fun b hb => Classical.byContradiction fun h => hn ⟨b, hb, by omega⟩
    obtain ⟨c, hc, _⟩ := lower_bad hb
    intro e
    rw [e] at hc; cases hc
theorem readG_S (s : ByteArray) (n : Nat) (e : Int) (hs : s.size ≤ 50000) (h : (if s.size = 0 then (0, 2) else if (∀ c ∈ nb s, dv c < 16) then (if 8192 < ndig (rdT (nb s)) then (0, 3) else (rdT (nb s), 0)) else (0, 7) : Nat × Int) = (n, e)) : Ctr Tryd.prog 12 [.string s] [] Tabs (natE n e) := by
  have hlen := toLowerD_len s.data.toList
  have hsz : s.data.toList.length = s.size := rfl
  have := read_S s (Lib.toLowerD s.data.toList) Tabs (fun _ _ h hw => h.at hw) (by omega) (fun h0 => toLowerD_ne (fun e => h0 (by rw [← hsz, e]; rfl))) (lowG_S s (by omega))
  rw [readE_at, h] at this; exact this
theorem text8_nb (n : Nat) : nb ⟨(text8 n).toArray⟩ = textN n := by
  unfold nb text8
  rw [List.map_map]
  have hb : ∀ c ∈ textN n, c < 256 := fun c hc => by
    have := (text_hex n).2 c hc
    unfold dv at this
    split at this
    · omega
    · split at this
      · omega
      · split at this <;> omega
  have := List.map_congr_left (f := (fun b : UInt8 => b.toNat) ∘ UInt8.ofNat) (g := id) (l := textN n) (fun c hc => by
    show c % 256 = c
    exact Nat.mod_eq_of_lt (hb c hc))
  rw [this, List.map_id]
theorem text8_size (n : Nat) : (⟨(text8 n).toArray⟩ : ByteArray).size = max 1 ((bitsN n + 3) / 4) := by
  show (text8 n).length = _
  unfold text8
  rw [List.length_map, text_len]
theorem text8_ascii (n : Nat) : ∀ b ∈ (⟨(text8 n).toArray⟩ : ByteArray).data.toList, b.toNat < 128 := fun b hb => by
  have hm : b.toNat ∈ nb ⟨(text8 n).toArray⟩ := List.mem_map.2 ⟨b, hb, rfl⟩
  rw [text8_nb] at hm
  have := (text_hex n).2 _ hm
  unfold dv at this
  split at this
  · omega
  · split at this
    · omega
    · split at this <;> omega
theorem readT_S (n : Nat) (hn : sm 13 n) : Ctr Tryd.prog 12 [.string ⟨(text8 n).toArray⟩] [] tt (natE n 0) := by
  have hb := bits_sm hn
  have hs := text8_size n
  refine readX_S _ n 0 (text8_ascii n) (by omega) ?_
  have h := readE_at ⟨(text8 n).toArray⟩
  rw [Lib.toLowerD_ascii _ (text8_ascii n)] at h
  rw [h, text8_nb, read_text, if_neg (by omega), if_pos (text_hex n).2, if_neg (by unfold ndig; omega)]
theorem bget {x : ByteArray} {i : Nat} {c : UInt8} (h : x.data.toList[i]? = some c) : x[((i : Nat) : Int).toNat]? = some c := by
  rw [Int.toNat_natCast]
  have h2 : x.data[i]? = some c := by simpa using h
  have hlt : i < x.size := (Array.getElem?_eq_some_iff.1 h2).1
  rw [getElem?_pos x i hlt]
  have h3 := (Array.getElem?_eq_some_iff.1 h2).2
  exact congrArg some h3
theorem nb_get {x : ByteArray} {i : Nat} {c : UInt8} (h : x.data.toList[i]? = some c) : (nb x)[i]? = some c.toNat := by unfold nb; rw [List.getElem?_map, h]; rfl
theorem nb_len (x : ByteArray) : (nb x).length = x.size := by unfold nb; rw [List.length_map]; rfl
theorem nb_cut (x : ByteArray) : nb (x.extract 1 x.size) = (nb x).drop 1 := by
  unfold nb
  rw [ByteArray.data_extract, Array.toList_extract, List.extract_eq_take_drop, ← List.map_drop]
  congr 1
  rw [List.take_of_length_le]
  rw [List.length_drop]
  exact Nat.le_refl _
set_option maxRecDepth 100000 in
set_option maxHeartbeats 40000000 in
theorem texts_S (a : List Nat) (oa : okL a) (ma : a.length ≤ maxLen) (va : Value) (s : ByteArray) :
    Ctr Tryd.prog 3 [va, .string s] [] (fun w => RdN w [] va a ∧ Tabs w) (is (.bool true) []) := by
  refine Ctr.enter Tryd.func3 Tryd.ntmps3 rfl rfl (fun w hr => ?_)
  obtain ⟨ra, hT⟩ := hr
  have sa := ra.1
  have hK0 : Kp w w [(va, a)] := Kp.init (fun p hp => by
    simp only [List.mem_cons, List.not_mem_nil, or_false] at hp
    rcases hp with rfl
    exact ra)
  by_cases h1 : 12 < a.length
  · have c0 : cm .gtr (a.length : Int) 12 = true := cm_gt (by omega)
    repeat (first | refine C.seq ?_ | refine C.region ?_ | refine L.nil ?_ | refine D.seq ?_ | refine L.move (k := ?_) | refine L.assign (k := ?_) | refine L.cm (c := ?_) | refine C.yes (h1 := ?_) | refine C.no (h1 := ?_) | refine L.pickT (k := ?_) | refine L.pass (k := ?_) | refine L.not (c := ?_) | refine C.ret ?_ | refine D.thenRet ?_ | refine C.skip ?_ | refine L.callQ (lives_S) (k := ?_) | refine L.lenR sa (c := ?_))
    (refine D.ret (vs := [_]) (RV.tmp rfl RV.nil) ?_; intro w' hw; exact Post.mk (is := []) hw List.nodup_nil rfl ⟨rfl, rfl⟩)
  have c0 : cm .gtr (a.length : Int) 12 = false := cm_gt' (by omega)
  by_cases h2 : 200 < s.size
  · have c2 : cm .gtr (s.size : Int) 200 = true := cm_gt (by omega)
    repeat (first | refine C.seq ?_ | refine C.region ?_ | refine L.nil ?_ | refine D.seq ?_ | refine L.move (k := ?_) | refine L.assign (k := ?_) | refine L.cm (c := ?_) | refine C.yes (h1 := ?_) | refine C.no (h1 := ?_) | refine L.pickF (k := ?_) | refine L.want (k := ?_) | refine L.not (c := ?_) | refine L.lenS (c := ?_) | refine C.ret ?_ | refine D.thenRet ?_ | refine C.skip ?_ | refine L.callQ (lives_S) (k := ?_) | refine L.lenR sa (c := ?_))
    (refine D.ret (vs := [_]) (RV.tmp rfl RV.nil) ?_; intro w' hw; exact Post.mk (is := []) hw List.nodup_nil rfl ⟨rfl, rfl⟩)
  have c2 : cm .gtr (s.size : Int) 200 = false := cm_gt' (by omega)
  have na : nt a := ⟨oa, by omega⟩
  have xa : sm 12 (lv a) := sm_lv oa (by omega)
  obtain ⟨A, hA⟩ : ∃ A, A = lv a := ⟨_, rfl⟩
  rw [← hA] at xa
  have nA := nt_can xa (by omega)
  have hRt := readT_S A (sm_le xa (by omega))
  have hbA := bits_sm xa
  have hsz := text8_size A
  have d1 : ar .add .i64 (bitsN A : Int) 3 = ((bitsN A + 3 : Nat) : Int) := i64_addL (b := 3) (by omega)
  have d2 : ar .quo .i64 ((bitsN A + 3 : Nat) : Int) 4 = (((bitsN A + 3) / 4 : Nat) : Int) := i64_quo (b := 4) (by omega)
  have d3 : (if (((bitsN A + 3) / 4 : Nat) : Int) > 1 then (((bitsN A + 3) / 4 : Nat) : Int) else 1) = ((max 1 ((bitsN A + 3) / 4) : Nat) : Int) := by split <;> omega
  have d4 : cm .neq ((⟨(text8 A).toArray⟩ : ByteArray).size : Int) ((max 1 ((bitsN A + 3) / 4) : Nat) : Int) = false := cm_ne' (by rw [hsz])
  have hc0 : (can 0).length = 0 := by rw [can_zero]; rfl
  have d5 : cm .eql ((can 0).length : Int) 0 = true := by rw [hc0]; rfl
  have hTxt := textS a (text8 A) na (by rw [hA]) va
  by_cases hs0 : s.size = 0
  · have hRs := readG_S s 0 2 (by omega) (by rw [if_pos hs0])
    repeat (first | refine C.seq ?_ | refine C.region ?_ | refine L.nil ?_ | refine D.seq ?_ | refine L.move (k := ?_) | refine L.assign (k := ?_) | refine L.cm (c := ?_) | refine C.no (h1 := ?_) | refine L.pickF (k := ?_) | refine L.want (k := ?_) | refine L.not (c := ?_) | refine L.lenS (c := ?_) | refine C.skip ?_ | refine L.callQ (lives_S) (k := ?_) | refine L.lenR sa (c := ?_))
    refine L.callQ (hTxt) (hpre := fun _ hw => hK0.rd List.mem_cons_self hw) (k := ?_)
    repeat (first | refine C.seq ?_ | refine C.region ?_ | refine L.nil ?_ | refine D.seq ?_ | refine L.move (k := ?_) | refine L.assign (k := ?_))
    refine callE hK0 (hRt) (hpre := fun _ _ => trivial) (k := fun v1 w1 hK1 => ?_)
    repeat (first | refine C.seq ?_ | refine C.region ?_ | refine L.nil ?_ | refine L.move (k := ?_) | refine L.assign (k := ?_) | refine L.cm (c := ?_) | refine L.extract (c := ?_) | refine L.want (k := ?_) | refine D.seqR (h := ?_))
    refine L.callQ (natT a (can A) na nA (by rw [lv_can, hA]) va v1) (hpre := fun _ hw => ⟨hK1.rd (List.mem_cons_of_mem _ List.mem_cons_self) hw, hK1.rd List.mem_cons_self hw⟩) (k := ?_)
    repeat (first | refine L.move (k := ?_) | refine L.pickF (k := ?_) | refine L.want (k := ?_) | refine L.not (c := ?_))
    refine L.callQ (trimT A nA v1) (hpre := fun _ hw => hK1.rd List.mem_cons_self hw) (k := ?_)
    repeat (first | refine L.move (k := ?_) | refine L.pickF (k := ?_) | refine L.want (k := ?_) | refine L.not (c := ?_) | refine L.lenS (c := ?_))
    refine L.callQ (bitsS a (bitsN A) na (by rw [hA]) va) (hpre := fun _ hw => hK1.rd (List.mem_cons_of_mem _ List.mem_cons_self) hw) (k := ?_)
    repeat (first | refine C.seq ?_ | refine C.region ?_ | refine L.nil ?_ | refine D.seq ?_ | refine L.move (k := ?_) | refine L.cm (c := ?_) | refine L.ar (c := ?_) | refine C.no (h1 := ?_) | refine L.pickF (k := ?_) | refine L.want (k := ?_) | refine C.skip ?_ | refine L.maxI (hz := d3) (c := ?_))
    refine callE hK1 hRs (hpre := fun w' hw => (hT.bel (hK1.bk _ _ hw))) (k := fun v2 w2 hK2 => ?_)
    have s2 := hK2.sl List.mem_cons_self
    repeat (first | refine C.seq ?_ | refine C.region ?_ | refine L.nil ?_ | refine D.seq ?_ | refine L.move (k := ?_) | refine L.assign (k := ?_) | refine L.cm (c := ?_) | refine L.extract (c := ?_) | refine C.yes (h1 := ?_) | refine C.ret ?_ | refine D.thenRet ?_ | refine D.seqR (h := ?_) | refine L.lenR s2 (c := ?_))
    (refine D.ret (vs := [_]) (RV.tmp rfl RV.nil) ?_; intro w' hw; exact Post.mk (is := []) (hK2.bk _ _ hw) List.nodup_nil rfl ⟨rfl, rfl⟩)
  by_cases hd : (∀ c ∈ nb s, dv c < 16)
  case neg =>
    have hRs := readG_S s 0 7 (by omega) (by rw [if_neg hs0, if_neg hd])
    repeat (first | refine C.seq ?_ | refine C.region ?_ | refine L.nil ?_ | refine D.seq ?_ | refine L.move (k := ?_) | refine L.assign (k := ?_) | refine L.cm (c := ?_) | refine C.no (h1 := ?_) | refine L.pickF (k := ?_) | refine L.want (k := ?_) | refine L.not (c := ?_) | refine L.lenS (c := ?_) | refine C.skip ?_ | refine L.callQ (lives_S) (k := ?_) | refine L.lenR sa (c := ?_))
    refine L.callQ (hTxt) (hpre := fun _ hw => hK0.rd List.mem_cons_self hw) (k := ?_)
    repeat (first | refine C.seq ?_ | refine C.region ?_ | refine L.nil ?_ | refine D.seq ?_ | refine L.move (k := ?_) | refine L.assign (k := ?_))
    refine callE hK0 (hRt) (hpre := fun _ _ => trivial) (k := fun v1 w1 hK1 => ?_)
    repeat (first | refine C.seq ?_ | refine C.region ?_ | refine L.nil ?_ | refine L.move (k := ?_) | refine L.assign (k := ?_) | refine L.cm (c := ?_) | refine L.extract (c := ?_) | refine L.want (k := ?_) | refine D.seqR (h := ?_))
    refine L.callQ (natT a (can A) na nA (by rw [lv_can, hA]) va v1) (hpre := fun _ hw => ⟨hK1.rd (List.mem_cons_of_mem _ List.mem_cons_self) hw, hK1.rd List.mem_cons_self hw⟩) (k := ?_)
    repeat (first | refine L.move (k := ?_) | refine L.pickF (k := ?_) | refine L.want (k := ?_) | refine L.not (c := ?_))
    refine L.callQ (trimT A nA v1) (hpre := fun _ hw => hK1.rd List.mem_cons_self hw) (k := ?_)
    repeat (first | refine L.move (k := ?_) | refine L.pickF (k := ?_) | refine L.want (k := ?_) | refine L.not (c := ?_) | refine L.lenS (c := ?_))
    refine L.callQ (bitsS a (bitsN A) na (by rw [hA]) va) (hpre := fun _ hw => hK1.rd (List.mem_cons_of_mem _ List.mem_cons_self) hw) (k := ?_)
    repeat (first | refine C.seq ?_ | refine C.region ?_ | refine L.nil ?_ | refine D.seq ?_ | refine L.move (k := ?_) | refine L.cm (c := ?_) | refine L.ar (c := ?_) | refine C.no (h1 := ?_) | refine L.pickF (k := ?_) | refine L.want (k := ?_) | refine C.skip ?_ | refine L.maxI (hz := d3) (c := ?_))
    refine callE hK1 hRs (hpre := fun w' hw => (hT.bel (hK1.bk _ _ hw))) (k := fun v2 w2 hK2 => ?_)
    have s2 := hK2.sl List.mem_cons_self
    repeat (first | refine C.seq ?_ | refine C.region ?_ | refine L.nil ?_ | refine D.seq ?_ | refine L.move (k := ?_) | refine L.assign (k := ?_) | refine L.cm (c := ?_) | refine L.extract (c := ?_) | refine C.yes (h1 := ?_) | refine C.ret ?_ | refine D.thenRet ?_ | refine D.seqR (h := ?_) | refine L.lenR s2 (c := ?_))
    (refine D.ret (vs := [_]) (RV.tmp rfl RV.nil) ?_; intro w' hw; exact Post.mk (is := []) (hK2.bk _ _ hw) List.nodup_nil rfl ⟨rfl, rfl⟩)
  by_cases h8 : 8192 < ndig (rdT (nb s))
  · have hRs := readG_S s 0 3 (by omega) (by rw [if_neg hs0, if_pos hd, if_pos h8])
    repeat (first | refine C.seq ?_ | refine C.region ?_ | refine L.nil ?_ | refine D.seq ?_ | refine L.move (k := ?_) | refine L.assign (k := ?_) | refine L.cm (c := ?_) | refine C.no (h1 := ?_) | refine L.pickF (k := ?_) | refine L.want (k := ?_) | refine L.not (c := ?_) | refine L.lenS (c := ?_) | refine C.skip ?_ | refine L.callQ (lives_S) (k := ?_) | refine L.lenR sa (c := ?_))
    refine L.callQ (hTxt) (hpre := fun _ hw => hK0.rd List.mem_cons_self hw) (k := ?_)
    repeat (first | refine C.seq ?_ | refine C.region ?_ | refine L.nil ?_ | refine D.seq ?_ | refine L.move (k := ?_) | refine L.assign (k := ?_))
    refine callE hK0 (hRt) (hpre := fun _ _ => trivial) (k := fun v1 w1 hK1 => ?_)
    repeat (first | refine C.seq ?_ | refine C.region ?_ | refine L.nil ?_ | refine L.move (k := ?_) | refine L.assign (k := ?_) | refine L.cm (c := ?_) | refine L.extract (c := ?_) | refine L.want (k := ?_) | refine D.seqR (h := ?_))
    refine L.callQ (natT a (can A) na nA (by rw [lv_can, hA]) va v1) (hpre := fun _ hw => ⟨hK1.rd (List.mem_cons_of_mem _ List.mem_cons_self) hw, hK1.rd List.mem_cons_self hw⟩) (k := ?_)
    repeat (first | refine L.move (k := ?_) | refine L.pickF (k := ?_) | refine L.want (k := ?_) | refine L.not (c := ?_))
    refine L.callQ (trimT A nA v1) (hpre := fun _ hw => hK1.rd List.mem_cons_self hw) (k := ?_)
    repeat (first | refine L.move (k := ?_) | refine L.pickF (k := ?_) | refine L.want (k := ?_) | refine L.not (c := ?_) | refine L.lenS (c := ?_))
    refine L.callQ (bitsS a (bitsN A) na (by rw [hA]) va) (hpre := fun _ hw => hK1.rd (List.mem_cons_of_mem _ List.mem_cons_self) hw) (k := ?_)
    repeat (first | refine C.seq ?_ | refine C.region ?_ | refine L.nil ?_ | refine D.seq ?_ | refine L.move (k := ?_) | refine L.cm (c := ?_) | refine L.ar (c := ?_) | refine C.no (h1 := ?_) | refine L.pickF (k := ?_) | refine L.want (k := ?_) | refine C.skip ?_ | refine L.maxI (hz := d3) (c := ?_))
    refine callE hK1 hRs (hpre := fun w' hw => (hT.bel (hK1.bk _ _ hw))) (k := fun v2 w2 hK2 => ?_)
    have s2 := hK2.sl List.mem_cons_self
    repeat (first | refine C.seq ?_ | refine C.region ?_ | refine L.nil ?_ | refine D.seq ?_ | refine L.move (k := ?_) | refine L.assign (k := ?_) | refine L.cm (c := ?_) | refine L.extract (c := ?_) | refine C.yes (h1 := ?_) | refine C.ret ?_ | refine D.thenRet ?_ | refine D.seqR (h := ?_) | refine L.lenR s2 (c := ?_))
    (refine D.ret (vs := [_]) (RV.tmp rfl RV.nil) ?_; intro w' hw; exact Post.mk (is := []) (hK2.bk _ _ hw) List.nodup_nil rfl ⟨rfl, rfl⟩)
  have hRs := readG_S s (rdT (nb s)) 0 (by omega) (by rw [if_neg hs0, if_pos hd, if_neg h8])
  obtain ⟨n, hn⟩ : ∃ n, n = rdT (nb s) := ⟨_, rfl⟩
  rw [← hn] at hRs
  have hne : nb s ≠ [] := fun e => hs0 (by rw [← nb_len, e]; rfl)
  have hu := text_read hne hd
  rw [← hn] at hu
  have xn : sm 13 n := by
    have h := rdN_lt (l := (nb s).map dv) (fun d hd' => by obtain ⟨c, hc, rfl⟩ := List.mem_map.1 hd'; exact hd c hc)
    rw [List.length_map, nb_len] at h
    have h2 : 16 ^ s.size ≤ 16 ^ 208 := Nat.pow_le_pow_right (by omega) (by omega)
    unfold sm
    rw [hn]
    exact Nat.lt_of_lt_of_le h (Nat.le_trans h2 (by decide))
  have nn := nt_can xn (by omega)
  have hT8 : (text8 n).map (·.toNat) = (strip0 (nb s)).map (fun c => dig (dv c)) := by rw [← hu]; exact text8_nb n
  repeat (first | refine C.seq ?_ | refine C.region ?_ | refine L.nil ?_ | refine D.seq ?_ | refine L.move (k := ?_) | refine L.assign (k := ?_) | refine L.cm (c := ?_) | refine C.no (h1 := ?_) | refine L.pickF (k := ?_) | refine L.want (k := ?_) | refine L.not (c := ?_) | refine L.lenS (c := ?_) | refine C.skip ?_ | refine L.callQ (lives_S) (k := ?_) | refine L.lenR sa (c := ?_))
  refine L.callQ (hTxt) (hpre := fun _ hw => hK0.rd List.mem_cons_self hw) (k := ?_)
  repeat (first | refine C.seq ?_ | refine C.region ?_ | refine L.nil ?_ | refine D.seq ?_ | refine L.move (k := ?_) | refine L.assign (k := ?_))
  refine callE hK0 (hRt) (hpre := fun _ _ => trivial) (k := fun v1 w1 hK1 => ?_)
  repeat (first | refine C.seq ?_ | refine C.region ?_ | refine L.nil ?_ | refine L.move (k := ?_) | refine L.assign (k := ?_) | refine L.cm (c := ?_) | refine L.extract (c := ?_) | refine L.want (k := ?_) | refine D.seqR (h := ?_))
  refine L.callQ (natT a (can A) na nA (by rw [lv_can, hA]) va v1) (hpre := fun _ hw => ⟨hK1.rd (List.mem_cons_of_mem _ List.mem_cons_self) hw, hK1.rd List.mem_cons_self hw⟩) (k := ?_)
  repeat (first | refine L.move (k := ?_) | refine L.pickF (k := ?_) | refine L.want (k := ?_) | refine L.not (c := ?_))
  refine L.callQ (trimT A nA v1) (hpre := fun _ hw => hK1.rd List.mem_cons_self hw) (k := ?_)
  repeat (first | refine L.move (k := ?_) | refine L.pickF (k := ?_) | refine L.want (k := ?_) | refine L.not (c := ?_) | refine L.lenS (c := ?_))
  refine L.callQ (bitsS a (bitsN A) na (by rw [hA]) va) (hpre := fun _ hw => hK1.rd (List.mem_cons_of_mem _ List.mem_cons_self) hw) (k := ?_)
  repeat (first | refine C.seq ?_ | refine C.region ?_ | refine L.nil ?_ | refine D.seq ?_ | refine L.move (k := ?_) | refine L.cm (c := ?_) | refine L.ar (c := ?_) | refine C.no (h1 := ?_) | refine L.pickF (k := ?_) | refine L.want (k := ?_) | refine C.skip ?_ | refine L.maxI (hz := d3) (c := ?_))
  refine callE hK1 hRs (hpre := fun w' hw => (hT.bel (hK1.bk _ _ hw))) (k := fun v2 w2 hK2 => ?_)
  repeat (first | refine C.seq ?_ | refine C.region ?_ | refine L.nil ?_ | refine D.seq ?_ | refine L.move (k := ?_) | refine L.assign (k := ?_) | refine L.cm (c := ?_) | refine L.extract (c := ?_) | refine C.no (h1 := ?_) | refine C.skip ?_ | refine D.seqR (h := ?_))
  refine L.callQ (textS (can n) (text8 n) nn (by rw [lv_can]) v2) (hpre := fun _ hw => hK2.rd List.mem_cons_self hw) (k := ?_)
  repeat (first | refine C.seq ?_ | refine L.nil ?_ | refine D.seq ?_ | refine L.assign (k := ?_) | refine C.block ?_)
  refine C.loop (α := ByteArray) (fun x => strip0 (nb x) = strip0 (nb s) ∧ x.size ≠ 0 ∧ x.size ≤ 200 ∧ ∀ c ∈ nb x, dv c < 16) (fun x => [(1, .string x), (10, .string ⟨(text8 n).toArray⟩)]) (fun _ => []) (fun x => x.size) s (fun a w hs => hs.lessE rfl (lk_cons rfl (lk_cons rfl (fun _ _ h => lk_nil h)))) ⟨rfl, hs0, by omega, hd⟩ ?_
  rintro x ⟨hx1, hx2, hx3, hx4⟩
  obtain ⟨c, hc⟩ : ∃ c, x.data.toList[0]? = some c := ⟨_, List.getElem?_eq_getElem (show 0 < x.data.toList.length from Nat.pos_of_ne_zero hx2)⟩
  have g0 : x[((0 : Nat) : Int).toNat]? = some c := bget hc
  have hnb0 := nb_get hc
  have fin : ∀ (hst : strip0 (nb x) = nb x), (text8 n).map (·.toNat) = (nb x).map (fun c => dig (dv c)) := fun hst => by rw [hT8, ← hx1, hst]
  by_cases hl : 1 < x.size
  · have e1 : cm .gtr (x.size : Int) 1 = true := cm_gt (by omega)
    obtain ⟨d, r, hnx⟩ : ∃ d r, nb x = c.toNat :: d :: r := by
      have hlen := nb_len x
      match hq : nb x, hlen with
      | [], h => simp at h; omega
      | [_], h => simp at h; omega
      | c0 :: d :: r, _ =>
        rw [hq] at hnb0
        simp at hnb0
        exact ⟨d, r, by rw [hnb0]⟩
    by_cases h48 : c.toNat = 48
    · have e2 : cm .eql (c.toNat : Int) 48 = true := cm_yes (by omega)
      repeat (first | refine C.seq ?_ | refine C.region ?_ | refine L.nil ?_ | refine D.seq ?_ | refine L.move (k := ?_) | refine L.assign (k := ?_) | refine L.cm (c := ?_) | refine C.yes (h1 := ?_) | refine L.pickT (k := ?_) | refine L.want (k := ?_) | refine L.lenS (c := ?_) | refine C.block ?_ | refine D.blkNormal ?_ | refine C.skip ?_ | refine L.indexS (h0 := Int.natCast_nonneg 0) (hv := g0) (c := ?_) | refine L.sliceS (lo := 1) (hi := x.size) (hy := .inr ⟨_, _, rfl, rfl⟩) (hz := .inl ⟨rfl, rfl⟩) (h1 := by omega) (h2 := Nat.le_refl _) (c := ?_))
      have hcut := nb_cut x
      have hcs : (x.extract 1 x.size).size = x.size - 1 := by rw [← nb_len, hcut, List.length_drop, nb_len]
      refine D.then_ fun a1 w1 hs => ⟨x.extract 1 x.size, ⟨?_, by omega, by omega, fun c hc => hx4 c (List.mem_of_mem_drop (by rw [← hcut]; exact hc))⟩, by omega, hs.lessE rfl (lk_cons rfl (lk_cons rfl (fun _ _ h => lk_nil h)))⟩
      rw [hcut, ← hx1, hnx, List.drop_succ_cons, List.drop_zero]
      show _ = (if c.toNat = 48 then strip0 (d :: r) else c.toNat :: d :: r)
      rw [if_pos h48]
    · have e2 : cm .eql (c.toNat : Int) 48 = false := cm_no (by omega)
      have hf := fin (by
        rw [hnx]
        show (if c.toNat = 48 then strip0 (d :: r) else c.toNat :: d :: r) = _
        rw [if_neg h48])
      have hsz2 : (⟨(text8 n).toArray⟩ : ByteArray).size = x.size := by
        have := congrArg List.length hf
        rw [List.length_map, List.length_map, nb_len] at this
        exact this
      have f1 : cm .neq ((⟨(text8 n).toArray⟩ : ByteArray).size : Int) (x.size : Int) = false := cm_ne' (by rw [hsz2])
      repeat (first | refine C.seq ?_ | refine C.region ?_ | refine L.nil ?_ | refine D.seq ?_ | refine L.move (k := ?_) | refine L.assign (k := ?_) | refine L.cm (c := ?_) | refine C.no (h1 := ?_) | refine L.pickT (k := ?_) | refine L.want (k := ?_) | refine L.lenS (c := ?_) | refine C.block ?_ | refine C.exit ?_ | refine D.thenExit ?_ | refine D.blkExit ?_ | refine C.skip ?_ | refine L.indexS (h0 := Int.natCast_nonneg 0) (hv := g0) (c := ?_))
      refine C.loop (α := Nat) (fun i => i ≤ x.size) (fun i => [(1, .string x), (10, .string ⟨(text8 n).toArray⟩), (11, .int .i64 (i : Int))]) (fun _ => []) (fun i => x.size - i) 0 (fun a w hs => hs.lessE rfl (lk_cons rfl (lk_cons rfl (lk_cons rfl (fun _ _ h => lk_nil h))))) (Nat.zero_le _) ?_
      intro i hi
      rcases Nat.lt_or_ge i x.size with hlt | hge
      · have f2 : cm .lss (i : Int) x.size = true := cm_lo (by omega)
        have f6 : ar .add .i64 (i : Int) 1 = ((i + 1 : Nat) : Int) := i64_add (b := 1) (by omega)
        obtain ⟨ci, hci⟩ : ∃ ci, x.data.toList[i]? = some ci := ⟨_, List.getElem?_eq_getElem (show i < x.data.toList.length from hlt)⟩
        obtain ⟨ui, hui⟩ : ∃ ui, (text8 n)[i]? = some ui := ⟨_, List.getElem?_eq_getElem (show i < (text8 n).length from Nat.lt_of_lt_of_eq hlt hsz2.symm)⟩
        have gx : x[((i : Nat) : Int).toNat]? = some ci := bget hci
        have gu : (⟨(text8 n).toArray⟩ : ByteArray)[((i : Nat) : Int).toNat]? = some ui := bget hui
        have hq := congrArg (fun l => l[i]?) hf
        simp only [List.getElem?_map, hui, nb_get hci, Option.map_some, Option.some.injEq] at hq
        have hd16 := hx4 ci.toNat (List.mem_of_getElem? (nb_get hci))
        rcases dig_dv hd16 with hdd | ⟨hdd, hd1, hd2⟩
        · have f3 : cm .neq (ui.toNat : Int) (ci.toNat : Int) = false := cm_ne' (by rw [hq, hdd])
          repeat' (first | refine L.indexS (h0 := Int.natCast_nonneg i) (hv := gx) (c := ?_) | refine L.indexS (h0 := Int.natCast_nonneg i) (hv := gu) (c := ?_) | refine C.seq ?_ | refine C.region ?_ | refine L.nil ?_ | refine D.seq ?_ | refine L.move (k := ?_) | refine L.assign (k := ?_) | refine L.cm (c := ?_) | refine L.ar (c := ?_) | refine C.yes (h1 := ?_) | refine C.no (h1 := ?_) | refine L.pickF (k := ?_) | refine L.pass (k := ?_) | refine L.lenS (c := ?_) | refine C.block ?_ | refine D.blkNormal ?_ | refine C.skip ?_ | exact D.endsQ | refine QL.fin ?_ | refine C.quiet (h := ?_) | (refine QL.step (v := ?_) (by exact rfl) (by exact rfl) ?_ ?_; rotate_left) | refine C.quietA (h := ?_))
          exact D.then_ fun a1 w1 hs => ⟨i + 1, hlt, by omega, hs.lessE rfl (lk_cons rfl (lk_cons rfl (lk_cons rfl (fun _ _ h => lk_nil h))))⟩
        · have f3 : cm .neq (ui.toNat : Int) (ci.toNat : Int) = true := cm_ne (by rw [hq, hdd]; omega)
          have f4 : ar .add .u8 (ci.toNat : Int) 32 = ((ci.toNat + 32 : Nat) : Int) := by
            show IntKind.u8.wrap _ = _
            simp only [IntKind.wrap, IntKind.bits, IntKind.signed]
            simp
            omega
          have f5 : cm .neq (ui.toNat : Int) ((ci.toNat + 32 : Nat) : Int) = false := cm_ne' (by rw [hq, hdd])
          repeat' (first | refine L.indexS (h0 := Int.natCast_nonneg i) (hv := gx) (c := ?_) | refine L.indexS (h0 := Int.natCast_nonneg i) (hv := gu) (c := ?_) | refine C.seq ?_ | refine C.region ?_ | refine L.nil ?_ | refine D.seq ?_ | refine L.move (k := ?_) | refine L.assign (k := ?_) | refine L.cm (c := ?_) | refine L.ar (c := ?_) | refine C.yes (h1 := ?_) | refine C.no (h1 := ?_) | refine L.pickT (k := ?_) | refine L.want (k := ?_) | refine L.lenS (c := ?_) | refine C.block ?_ | refine D.blkNormal ?_ | refine C.skip ?_ | exact D.endsQ | refine QL.fin ?_ | refine C.quiet (h := ?_) | (refine QL.step (v := ?_) (by exact rfl) (by exact rfl) ?_ ?_; rotate_left) | refine C.quietA (h := ?_))
          exact D.then_ fun a1 w1 hs => ⟨i + 1, hlt, by omega, hs.lessE rfl (lk_cons rfl (lk_cons rfl (lk_cons rfl (fun _ _ h => lk_nil h))))⟩
      · have f2 : cm .lss (i : Int) x.size = false := cm_lo' (by omega)
        repeat (first | refine C.seq ?_ | refine C.region ?_ | refine L.nil ?_ | refine D.seq ?_ | refine L.move (k := ?_) | refine L.assign (k := ?_) | refine L.cm (c := ?_) | refine C.no (h1 := ?_) | refine L.lenS (c := ?_) | refine C.ret ?_ | refine C.exit ?_ | refine D.thenExit ?_ | refine D.blkExit ?_)
        (refine D.ret (vs := [_]) (RV.tmp rfl RV.nil) ?_; intro w' hw; exact Post.mk (is := []) (hK2.bk _ _ hw) List.nodup_nil rfl ⟨rfl, rfl⟩)
  · have e1 : cm .gtr (x.size : Int) 1 = false := cm_gt' (by omega)
    have hf := fin (by
      have hlen := nb_len x
      match hq : nb x, hlen with
      | [], h => rfl
      | [_], h => rfl
      | _ :: _ :: _, h => simp at h; omega)
    have hsz2 : (⟨(text8 n).toArray⟩ : ByteArray).size = x.size := by
      have := congrArg List.length hf
      rw [List.length_map, List.length_map, nb_len] at this
      exact this
    have f1 : cm .neq ((⟨(text8 n).toArray⟩ : ByteArray).size : Int) (x.size : Int) = false := cm_ne' (by rw [hsz2])
    repeat (first | refine C.seq ?_ | refine C.region ?_ | refine L.nil ?_ | refine D.seq ?_ | refine L.move (k := ?_) | refine L.assign (k := ?_) | refine L.cm (c := ?_) | refine C.no (h1 := ?_) | refine L.pickF (k := ?_) | refine L.pass (k := ?_) | refine L.lenS (c := ?_) | refine C.block ?_ | refine C.exit ?_ | refine D.thenExit ?_ | refine D.blkExit ?_ | refine C.skip ?_ | refine L.indexS (h0 := Int.natCast_nonneg 0) (hv := g0) (c := ?_))
    refine C.loop (α := Nat) (fun i => i ≤ x.size) (fun i => [(1, .string x), (10, .string ⟨(text8 n).toArray⟩), (11, .int .i64 (i : Int))]) (fun _ => []) (fun i => x.size - i) 0 (fun a w hs => hs.lessE rfl (lk_cons rfl (lk_cons rfl (lk_cons rfl (fun _ _ h => lk_nil h))))) (Nat.zero_le _) ?_
    intro i hi
    rcases Nat.lt_or_ge i x.size with hlt | hge
    · have f2 : cm .lss (i : Int) x.size = true := cm_lo (by omega)
      have f6 : ar .add .i64 (i : Int) 1 = ((i + 1 : Nat) : Int) := i64_add (b := 1) (by omega)
      obtain ⟨ci, hci⟩ : ∃ ci, x.data.toList[i]? = some ci := ⟨_, List.getElem?_eq_getElem (show i < x.data.toList.length from hlt)⟩
      obtain ⟨ui, hui⟩ : ∃ ui, (text8 n)[i]? = some ui := ⟨_, List.getElem?_eq_getElem (show i < (text8 n).length from Nat.lt_of_lt_of_eq hlt hsz2.symm)⟩
      have gx : x[((i : Nat) : Int).toNat]? = some ci := bget hci
      have gu : (⟨(text8 n).toArray⟩ : ByteArray)[((i : Nat) : Int).toNat]? = some ui := bget hui
      have hq := congrArg (fun l => l[i]?) hf
      simp only [List.getElem?_map, hui, nb_get hci, Option.map_some, Option.some.injEq] at hq
      have hd16 := hx4 ci.toNat (List.mem_of_getElem? (nb_get hci))
      rcases dig_dv hd16 with hdd | ⟨hdd, hd1, hd2⟩
      · have f3 : cm .neq (ui.toNat : Int) (ci.toNat : Int) = false := cm_ne' (by rw [hq, hdd])
        repeat' (first | refine L.indexS (h0 := Int.natCast_nonneg i) (hv := gx) (c := ?_) | refine L.indexS (h0 := Int.natCast_nonneg i) (hv := gu) (c := ?_) | refine C.seq ?_ | refine C.region ?_ | refine L.nil ?_ | refine D.seq ?_ | refine L.move (k := ?_) | refine L.assign (k := ?_) | refine L.cm (c := ?_) | refine L.ar (c := ?_) | refine C.yes (h1 := ?_) | refine C.no (h1 := ?_) | refine L.pickF (k := ?_) | refine L.pass (k := ?_) | refine L.lenS (c := ?_) | refine C.block ?_ | refine D.blkNormal ?_ | refine C.skip ?_ | exact D.endsQ | refine QL.fin ?_ | refine C.quiet (h := ?_) | (refine QL.step (v := ?_) (by exact rfl) (by exact rfl) ?_ ?_; rotate_left) | refine C.quietA (h := ?_))
        exact D.then_ fun a1 w1 hs => ⟨i + 1, hlt, by omega, hs.lessE rfl (lk_cons rfl (lk_cons rfl (lk_cons rfl (fun _ _ h => lk_nil h))))⟩
      · have f3 : cm .neq (ui.toNat : Int) (ci.toNat : Int) = true := cm_ne (by rw [hq, hdd]; omega)
        have f4 : ar .add .u8 (ci.toNat : Int) 32 = ((ci.toNat + 32 : Nat) : Int) := by
          show IntKind.u8.wrap _ = _
          simp only [IntKind.wrap, IntKind.bits, IntKind.signed]
          simp
          omega
        have f5 : cm .neq (ui.toNat : Int) ((ci.toNat + 32 : Nat) : Int) = false := cm_ne' (by rw [hq, hdd])
        repeat' (first | refine L.indexS (h0 := Int.natCast_nonneg i) (hv := gx) (c := ?_) | refine L.indexS (h0 := Int.natCast_nonneg i) (hv := gu) (c := ?_) | refine C.seq ?_ | refine C.region ?_ | refine L.nil ?_ | refine D.seq ?_ | refine L.move (k := ?_) | refine L.assign (k := ?_) | refine L.cm (c := ?_) | refine L.ar (c := ?_) | refine C.yes (h1 := ?_) | refine C.no (h1 := ?_) | refine L.pickT (k := ?_) | refine L.want (k := ?_) | refine L.lenS (c := ?_) | refine C.block ?_ | refine D.blkNormal ?_ | refine C.skip ?_ | exact D.endsQ | refine QL.fin ?_ | refine C.quiet (h := ?_) | (refine QL.step (v := ?_) (by exact rfl) (by exact rfl) ?_ ?_; rotate_left) | refine C.quietA (h := ?_))
        exact D.then_ fun a1 w1 hs => ⟨i + 1, hlt, by omega, hs.lessE rfl (lk_cons rfl (lk_cons rfl (lk_cons rfl (fun _ _ h => lk_nil h))))⟩
    · have f2 : cm .lss (i : Int) x.size = false := cm_lo' (by omega)
      repeat (first | refine C.seq ?_ | refine C.region ?_ | refine L.nil ?_ | refine D.seq ?_ | refine L.move (k := ?_) | refine L.assign (k := ?_) | refine L.cm (c := ?_) | refine C.no (h1 := ?_) | refine L.lenS (c := ?_) | refine C.ret ?_ | refine C.exit ?_ | refine D.thenExit ?_ | refine D.blkExit ?_)
      (refine D.ret (vs := [_]) (RV.tmp rfl RV.nil) ?_; intro w' hw; exact Post.mk (is := []) (hK2.bk _ _ hw) List.nodup_nil rfl ⟨rfl, rfl⟩)
theorem _root_.Go.Proofs.YtpemoeincepilaaDoor.natTexts_walk0 (va : Value) (a : List Nat) (s : ByteArray) (w : World) (ha : Nats w va a) (hT : Tabs w) :
    Calls Tryd.prog 3 #[va, .string s] w fun e w' => e = .returned (.bool true) ∧ Below w.heap.size w w' :=
  (texts_S a ha.1 ha.2.1 va s).true w ⟨ha.2.2, hT⟩
end Go.Proofs.YtpemoeincepilaaDoor.Nt
