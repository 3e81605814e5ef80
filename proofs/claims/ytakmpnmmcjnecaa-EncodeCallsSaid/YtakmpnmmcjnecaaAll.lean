/- encode.All (layer 6), of a row of at most 1000 instructions. -/
import Derived.Test.YtakmpnmmcjnecaaEPlain
import Derived.Lib.AppendStr
namespace Go.Proofs.Ytakmpnmmcjnecaa
open Go.RowKit Calm

def Ins.ok (x : Ins) : Prop := (-9223372036854775808 ≤ x.md ∧ x.md ≤ 9223372036854775807) ∧ (-9223372036854775808 ≤ x.imm ∧ x.imm ≤ 9223372036854775807)
/-- A row of instructions in memory, nine cells each. -/
def InsRow (w : World) (b off : Nat) (l : List Ins) : Prop := ∀ (j : Nat) (x : Ins), l[j]? = some x → ∀ (k : Nat) (v : Value), x.vs[k]? = some v → w.cell? ⟨b, off + j * 9 + k, none⟩ = some v
def catO (l : List Ins) : ByteArray := l.foldl (fun r x => r ++ x.out) ⟨#[]⟩
def allOk (l : List Ins) : Bool := l.all Ins.chk
def outs (l : List Ins) : ByteArray := if allOk l then catO l else ⟨#[]⟩
def IsS (w : World) (B : Nat) (v : Value) (s : ByteArray) : Prop := w.ownsRow B 5 1 v s.size (Lib.strCells s)
theorem IsS.later {w w' : World} {B : Nat} {v : Value} {s : ByteArray} (h : IsS w B v s) (hb : Below w.heap.size w w') : IsS w' B v s := by
  obtain ⟨h1, h2⟩ := h
  refine ⟨h1, ?_⟩
  rcases h2 with h2 | ⟨g, cap, cur, a, b, c, d⟩
  · exact .inl h2
  · refine .inr ⟨g, cap, cur, a, b, ?_, d⟩
    rw [hb.block g ?_]; exact c
    rcases Nat.lt_or_ge g w.heap.size with h | h
    · exact h
    · rw [Array.getElem?_eq_none h] at c; simp at c
def bytesOf (s : ByteArray) : List Int := s.data.toList.map fun b => (b.toNat : Int)
theorem bytesOf_length (s : ByteArray) : (bytesOf s).length = s.size := by unfold bytesOf; simp
theorem strB_bytesOf (s : ByteArray) : strB (bytesOf s) = s := by
  apply ba_ext
  rw [strB_list]
  unfold bytesOf
  rw [List.map_map]
  conv => rhs; rw [← List.map_id s.data.toList]
  apply List.map_congr_left
  intro b _
  show UInt8.ofNat ((b.toNat : Int)).toNat = b
  simp
theorem IsS.toB {w : World} {B : Nat} {v : Value} {s : ByteArray} (h : IsS w B v s) : IsB w B v (bytesOf s) := by
  have e : Lib.strCells s = (bytesOf s).map (Value.int .u8) := by unfold Lib.strCells bytesOf; rw [List.map_map]; rfl
  unfold IsS at h
  unfold IsB
  rw [bytesOf_length, ← e]; exact h
theorem conv_strS {w : World} {B : Nat} {v : Value} {s : ByteArray} (h : IsS w B v s) : (convert 70 9 v).run Try.prog w = .ok (.string s) w := by
  have := conv_str h.toB
  rwa [strB_bytesOf] at this
theorem wpList_appS {ops : Array Oper} {rest : List Oper} {o : Oper} {a : Act} {w : World} {Q : Exit → Act → World → Prop} (hgd : o.guard = none) (s x : Operand)
    (ho : o.op = .call { callee := .builtin .append, args := #[s, x], argTypes := #[70, 9] })
    {B : Nat} {v : Value} {xs y : ByteArray} (hs : a.eval s = v) (hx : a.eval x = .string y) (h1 : IsS w B v xs) (hB : B ≤ w.heap.size) (hl : xs.size + y.size ≤ 100000)
    (h : ∀ v' w', IsS w' B v' (xs ++ y) → Below B w w' → wpList Try.prog ops Q rest (a.put o.dst v') w') : wpList Try.prog ops Q (o :: rest) a w := by
  obtain ⟨i0, hi, hz0, hz1, hz2⟩ := info_parts Try.infoU8
  refine Lib.wpList_append_own_string w hgd s x 70 9 ho B 5 i0 Try.underlying70 Try.underlying9 hi hz0 hz1 hz2 v xs.size _ hs h1 y hx (by unfold maxLen; omega) (by omega) hB ?_
  intro v' w' h2 h3 _
  refine h v' w' ?_ ((Below.refl _ _).grown h3 hB ?_)
  · have e1 : (xs ++ y).size = xs.size + y.size := ByteArray.size_append
    have e2 : Lib.strCells (xs ++ y) = Lib.strCells xs ++ Lib.strCells y := by unfold Lib.strCells; rw [ByteArray.data_append, Array.toList_append, List.map_append]
    unfold IsS; rw [e1, e2]; exact h2
  · intro k hk
    rcases h1.2 with ⟨rfl, _⟩ | ⟨g, cap, cur, rfl, hg, _⟩
    · simp [Value.ownBlock] at hk
    · simp [Value.ownBlock] at hk; omega
theorem catO_snoc (l : List Ins) (k : Nat) (x : Ins) (h : l[k]? = some x) : catO (l.take (k + 1)) = catO (l.take k) ++ x.out := by
  rw [List.take_add_one, h]; unfold catO; rw [List.foldl_append]; rfl
theorem catO_size (l : List Ins) : (catO l).size ≤ 11 * l.length := by
  suffices ∀ s : ByteArray, (l.foldl (fun r x => r ++ x.out) s).size ≤ s.size + 11 * l.length by
    have := this ⟨#[]⟩
    have e : (⟨#[]⟩ : ByteArray).size = 0 := rfl
    unfold catO; omega
  induction l with
  | nil => intro s; simp
  | cons x l ih => intro s; rw [List.foldl_cons]; have := ih (s ++ x.out); rw [ByteArray.size_append] at this; have := x.out_size; simp; omega
theorem catO_snoc' (l : List Ins) (k : Nat) (op d s t mb mi ms md imm : Int) (h : l[k]? = some ⟨op, d, s, t, mb, mi, ms, md, imm⟩) : catO (l.take (k + 1)) = catO (l.take k) ++ outE op d s t mb mi ms md imm := by
  rw [catO_snoc l k _ h, Ins.out]
theorem out_size' (op d s t mb mi ms md imm : Int) : (outE op d s t mb mi ms md imm).size ≤ 11 := by
  have := Ins.out_size ⟨op, d, s, t, mb, mi, ms, md, imm⟩
  rwa [Ins.out] at this
theorem allOk_snoc (l : List Ins) (k : Nat) (op d s t mb mi ms md imm : Int) (h : l[k]? = some ⟨op, d, s, t, mb, mi, ms, md, imm⟩) (h0 : allOk (l.take k) = true) (hk : chk op d s t mb mi ms md imm = true) : allOk (l.take (k + 1)) = true := by
  unfold allOk at h0 ⊢
  rw [List.take_add_one, h, List.all_append, h0]
  show (true && (chk op d s t mb mi ms md imm && true)) = true
  rw [hk]; rfl
theorem allOk_bad (l : List Ins) (k : Nat) (op d s t mb mi ms md imm : Int) (h : l[k]? = some ⟨op, d, s, t, mb, mi, ms, md, imm⟩) (hk : chk op d s t mb mi ms md imm = false) : allOk l = false := by
  unfold allOk
  rw [List.all_eq_false]
  exact ⟨_, List.mem_of_getElem? h, by show ¬ chk op d s t mb mi ms md imm = true; rw [hk]; decide⟩
theorem out_bad' (op d s t mb mi ms md imm : Int) (hk : chk op d s t mb mi ms md imm = false) : outE op d s t mb mi ms md imm = ⟨#[]⟩ := Ins.out_bad (x := ⟨op, d, s, t, mb, mi, ms, md, imm⟩) hk
theorem outs_ok (l : List Ins) (h : allOk l = true) : outs l = catO l := by unfold outs; rw [if_pos h]
theorem outs_bad (l : List Ins) (h : allOk l = false) : outs l = ⟨#[]⟩ := by unfold outs; rw [if_neg (by rw [h]; decide)]
theorem start_ok (l : List Ins) : allOk (l.take 0) = true := rfl
theorem start_s (l : List Ins) (w : World) (B : Nat) : IsS w B (.slice none 0 0) (catO (l.take 0)) := World.ownsRow_nil _ _ _ _
attribute [local irreducible] outE chk outs catO allOk
set_option maxRecDepth 100000 in
set_option maxHeartbeats 2000000 in
theorem all_any (b off cap : Nat) (l : List Ins) (w : World) (hl : l.length ≤ 1000) (hok : ∀ x ∈ l, x.ok) (hc : InsRow w b off l) (hb : b < w.heap.size) :
    Calls Try.prog 18 #[.slice (some ⟨b, off, none⟩) l.length cap] w fun e w' => e = .returned (.tuple #[.string (outs l), .int .i64 (errOf (allOk l))]) ∧ Below w.heap.size w w' := by
  go_enter Try.func18, Try.ntmps18
  go_wp2_with fail
  go_loopw [4, 11] (fun v i wr => ∃ (k : Nat), k ≤ l.length ∧ i = .int .i64 k ∧ Hid (allOk (l.take k) = true) ∧ IsS wr w.heap.size v (catO (l.take k)) ∧ Below w.heap.size w wr) (fun _ i _ => l.length - (intOf i).toNat)
  case atStart => exact ⟨0, by omega, rfl, start_ok l, start_s l _ _, Below.refl _ _⟩
  case round =>
    obtain ⟨k, hk, rfl, ho, hs, hbw⟩ := hrel
    by_cases hlt : k < l.length
    · obtain ⟨x, hx⟩ : ∃ x, l[k]? = some x := ⟨l[k], List.getElem?_eq_getElem hlt⟩
      have hxo := hok x (List.mem_of_getElem? hx)
      have hcx := hc k x hx
      have hc' := hidd hc
      have hx' := hidd hx
      clear hc hx
      obtain ⟨op, d, s, t, mb, mi, ms, md, imm⟩ := x
      have f0 : wr.cell? ⟨b, off + k * 9, none⟩ = some (.int .i64 op) := (hbw.cell (p := ⟨b, off + k * 9, none⟩) hb).trans (hcx 0 _ rfl)
      have f1 : wr.cell? ⟨b, off + k * 9 + 1, none⟩ = some (.int .i64 d) := (hbw.cell (p := ⟨b, off + k * 9 + 1, none⟩) hb).trans (hcx 1 _ rfl)
      have f2 : wr.cell? ⟨b, off + k * 9 + 2, none⟩ = some (.int .i64 s) := (hbw.cell (p := ⟨b, off + k * 9 + 2, none⟩) hb).trans (hcx 2 _ rfl)
      have f3 : wr.cell? ⟨b, off + k * 9 + 3, none⟩ = some (.int .i64 t) := (hbw.cell (p := ⟨b, off + k * 9 + 3, none⟩) hb).trans (hcx 3 _ rfl)
      have f4 : wr.cell? ⟨b, off + k * 9 + 4, none⟩ = some (.int .i64 mb) := (hbw.cell (p := ⟨b, off + k * 9 + 4, none⟩) hb).trans (hcx 4 _ rfl)
      have f5 : wr.cell? ⟨b, off + k * 9 + 5, none⟩ = some (.int .i64 mi) := (hbw.cell (p := ⟨b, off + k * 9 + 5, none⟩) hb).trans (hcx 5 _ rfl)
      have f6 : wr.cell? ⟨b, off + k * 9 + 6, none⟩ = some (.int .i64 ms) := (hbw.cell (p := ⟨b, off + k * 9 + 6, none⟩) hb).trans (hcx 6 _ rfl)
      have f7 : wr.cell? ⟨b, off + k * 9 + 7, none⟩ = some (.int .i64 md) := (hbw.cell (p := ⟨b, off + k * 9 + 7, none⟩) hb).trans (hcx 7 _ rfl)
      have f8 : wr.cell? ⟨b, off + k * 9 + 8, none⟩ = some (.int .i64 imm) := (hbw.cell (p := ⟨b, off + k * 9 + 8, none⟩) hb).trans (hcx 8 _ rfl)
      clear hcx
      go_wp2_with fail
      go_at_call 17
      have hsz := hbw.size
      cases hk' : chk op d s t mb mi ms md imm
      · refine (einst_eq op d s t mb mi ms md imm _ _ hxo.1 hxo.2 2 (out_bad' op d s t mb mi ms md imm hk') (by rw [hk']; rfl)).mono ?_
        rintro e w1 ⟨rfl, hb1⟩
        have hB : Below w.heap.size w w1 := (hbw.alloc hsz _).trans (hb1.mono (by simp; omega))
        have hall := hidd (allOk_bad l k op d s t mb mi ms md imm hx'.out hk')
        clear hk' hb1 hs
        go_wp2_with fail
        go_ret2
        refine ⟨?_, hB⟩
        rw [outs_bad l hall.out, hall.out]; rfl
      · refine (einst_eq op d s t mb mi ms md imm _ _ hxo.1 hxo.2 0 rfl (by rw [hk']; rfl)).mono ?_
        rintro e w1 ⟨rfl, hb1⟩
        have hB : Below w.heap.size w w1 := (hbw.alloc hsz _).trans (hb1.mono (by simp; omega))
        have hs1 : IsS w1 w.heap.size u4 (catO (l.take k)) := IsS.later (World.ownsRow.alloc hs _) hb1
        have hsz1 := hB.size
        have hcat := hidd (catO_snoc' l k op d s t mb mi ms md imm hx'.out)
        have hall := hidd (allOk_snoc l k op d s t mb mi ms md imm hx'.out ho.out hk')
        have hbd : (catO (l.take k)).size + (outE op d s t mb mi ms md imm).size ≤ 100000 := by
          have h1 := catO_size (l.take k)
          have h3 := out_size' op d s t mb mi ms md imm
          rw [List.length_take] at h1
          omega
        clear hk' hb1 hs hbw ho
        go_wp2_with (at_builtin; refine wpList_appS (xs := catO (l.take k)) (B := w.heap.size) rfl _ _ rfl rfl rfl hs1 hsz1 hbd ?_; intro v' w' hB' hb')
        go_roundw
        case rel => exact ⟨k + 1, by omega, by go_num, hall, by rw [hcat.out]; exact hB', hB.trans hb'⟩
        case measure => simp [intOf]; omega
    · have e : k = l.length := by omega
      subst e
      have hcv := conv_strS hs
      have ho' := ho.out
      rw [List.take_length] at hcv ho'
      have hf : Hid (outs l = catO l ∧ errOf (allOk l) = 0) := ⟨outs_ok l ho', by rw [ho']; rfl⟩
      clear ho' ho hs hc
      go_wp2
      go_ret2
      exact ⟨by rw [hf.out.1, hf.out.2]; rfl, hbw⟩
end Go.Proofs.Ytakmpnmmcjnecaa
