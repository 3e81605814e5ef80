/- What nat.Read leans on: slices.Reverse, strings.IndexByte, as contracts. -/
import Derived.Test.YtpemoeincepilaaDoorNtG
import Derived.Test.YtpemoeincepilaaDoorSepB2
import GoSem.Extern.BytealgIndexByte
set_option linter.unusedVariables false
set_option linter.unusedSimpArgs false
namespace Go.Proofs.YtpemoeincepilaaDoor.Nt
open Go Go.RowKit SL
attribute [local irreducible] SL.L SL.C SL.D SL.N SL.H SL.QL SL.QW SL.QP

/-- A limb's list with the first k and the last k of its first n turned about. -/
def rv (n k : Nat) (l : List Value) : Nat → Option Value := fun p => if p < k ∨ (n - k ≤ p ∧ p < n) then l[n - 1 - p]? else l[p]?
set_option maxRecDepth 100000 in
set_option maxHeartbeats 4000000 in
theorem reverse_S (b : Nat) (l : List Value) (n cap : Nat) (hn : n ≤ 1000000) (hnl : n ≤ l.length) (hint : ∀ p, p < n → ∃ z, l[p]? = some (.int .u64 z)) : Ctr Tryd.prog 48 [.slice (some ⟨b, 0, none⟩) n cap] [(b, ob l 34)] (fun _ => n ≤ cap)
    (fun v B => v = .tuple #[] ∧ ∃ l', l'.length = l.length ∧ (∀ p, l'[p]? = if p < n then l[n - 1 - p]? else l[p]?) ∧ B = [(b, ob l' 34)]) := by
  refine Ctr.enter Tryd.func48 Tryd.ntmps48 rfl rfl (fun w hcap => ?_)
  have sn : SlV (.slice (some ⟨b, 0, none⟩) n cap) n := SlV.mk _ _ hcap
  have c1 : ar .sub .i64 (n : Int) 1 = (n : Int) - 1 - ((0 : Nat) : Int) := by
    show IntKind.i64.wrap _ = _
    rw [IntKind.wrap_i64]; omega
  repeat (first | refine C.seq ?_ | refine C.region ?_ | refine L.nil ?_ | refine D.seq ?_ | refine L.move (k := ?_) | refine L.assign (k := ?_) | refine L.ar (c := ?_) | refine L.lenV (c := ?_) | refine C.block ?_ | refine L.lenR sn (c := ?_))
  refine C.loop (α := Nat × List Value) (fun g => 2 * g.1 ≤ n + 1 ∧ g.2.length = l.length ∧ ∀ p, g.2[p]? = rv n g.1 l p) (fun g => [(0, .slice (some ⟨b, 0, none⟩) n cap), (2, .int .i64 (g.1 : Int)), (3, .int .i64 ((n : Int) - 1 - (g.1 : Int)))]) (fun g => [(b, ob g.2 34)]) (fun g => n - g.1) (0, l)
    (fun a w hs => hs.lessE rfl (lk_cons rfl (lk_cons rfl (lk_cons rfl (fun _ _ h => lk_nil h))))) ⟨by simp, rfl, fun p => by simp only [rv]; rw [if_neg (by omega)]⟩ ?_
  rintro ⟨k, l1⟩ ⟨hk, hl1, hg⟩
  simp only at hk hl1 hg
  dsimp only
  rcases Nat.lt_or_ge (2 * k + 1) n with hlt | hge
  · have d1 : cm .lss (k : Int) ((n : Int) - 1 - (k : Int)) = true := cm_lo (by omega)
    have d2 : ar .add .i64 (k : Int) 1 = ((k + 1 : Nat) : Int) := i64_add (b := 1) (by omega)
    have d3 : ar .sub .i64 ((n : Int) - 1 - (k : Int)) 1 = (n : Int) - 1 - ((k + 1 : Nat) : Int) := by
      show IntKind.i64.wrap _ = _
      rw [IntKind.wrap_i64]; omega
    have hkn : k < n := by omega
    have hmn : n - 1 - k < n := by omega
    have hkl : k < l1.length := by omega
    have hml : n - 1 - k < l1.length := by omega
    obtain ⟨x, hx⟩ := hint k hkn
    obtain ⟨y, hy⟩ := hint (n - 1 - k) hmn
    have kx : l1[k]? = some (.int .u64 x) := by rw [hg k]; unfold rv; rw [if_neg (by omega)]; exact hx
    have ky : l1[n - 1 - k]? = some (.int .u64 y) := by rw [hg _]; unfold rv; rw [if_neg (by omega)]; exact hy
    have e1 : sO (.slice (some ⟨b, 0, none⟩) n cap) + k * 1 = k := by simp [sO]
    have e2 : sO (.slice (some ⟨b, 0, none⟩) n cap) + (n - 1 - k) * 1 = n - 1 - k := by simp [sO]
    have ej : ((n : Int) - 1 - (k : Int)) = ((n - 1 - k : Nat) : Int) := by omega
    have hm2 : n - 1 - k < (l1.set k (.int .u64 y)).length := by rw [List.length_set]; exact hml
    repeat (first | refine C.seq ?_ | refine C.region ?_ | refine L.nil ?_ | refine D.seq ?_ | refine L.move (k := ?_) | refine L.cm (c := ?_) | refine C.yes (h1 := ?_) | refine C.block ?_ | refine C.skip ?_)
    refine C.mixed (h := ?_)
    repeat' (first | refine QW.loadN 0 k kx e1 (c := ?_) | refine QW.loadN 0 (n - 1 - k) ky e2 (c := ?_) | refine QW.storeN 0 k hkl e1 (c := ?_) | refine QW.storeN 0 (n - 1 - k) hm2 e2 (c := ?_) | refine L.nil ?_ | refine L.move (k := ?_) | exact D.endsQ | (refine QW.free (v := ?_) (by exact rfl) (by exact rfl) (fun w1 hk1 => ?_) ?_; rotate_left) | refine L.indexR sn hkn (c := ?_) | refine L.indexR sn hmn (hi := ej) (c := ?_))
    refine QW.finK [(13, 15)] (ks := [0, 0, 0, 0, 0, 0, 0, 1, 0, 0, 0, 1, 0, 2, 0, 2]) (hx := ?_) (h := ?_)
    · intro p hp f g hf hg'
      obtain rfl : p = (13, 15) := by simpa using hp
      simp only [List.reverse_cons, List.reverse_nil, List.nil_append, List.cons_append, List.getElem?_cons_succ, List.getElem?_cons_zero, Option.some.injEq] at hf hg'
      subst hf; subst hg'
      simp only [Fp.clash, Bool.and_eq_false_iff, Nat.blt_eq]
      right
      rcases Nat.lt_trichotomy k (n - 1 - k) with h | h | h
      · right; rw [← Bool.not_eq_true, Nat.blt_eq]; omega
      · omega
      · left; rw [← Bool.not_eq_true, Nat.blt_eq]; omega
    --@1
    repeat (first | refine C.region ?_ | refine L.nil ?_ | refine D.seq ?_ | refine L.move (k := ?_) | refine L.assign (k := ?_) | refine L.ar (c := ?_) | refine D.blkNormal ?_)
    refine D.then_ fun a1 w1 hs => ⟨(k + 1, (l1.set k (.int .u64 y)).set (n - 1 - k) (.int .u64 x)), ⟨by simp only; omega, by simp only [List.length_set]; exact hl1, fun p => ?_⟩, by simp only; omega, hs.lessE rfl (lk_cons rfl (lk_cons rfl (lk_cons rfl (fun _ _ h => lk_nil h))))⟩
    simp only
    rw [List.getElem?_set, List.getElem?_set, List.length_set]
    unfold rv
    by_cases h1 : n - 1 - k = p
    · subst h1
      rw [if_pos rfl, if_pos hml, if_pos (by omega), show n - 1 - (n - 1 - k) = k by omega, hx]
    · rw [if_neg h1]
      by_cases h2 : k = p
      · subst h2
        rw [if_pos rfl, if_pos hkl, if_pos (by omega), hy]
      · rw [if_neg h2, hg p]
        unfold rv
        by_cases h3 : p < k ∨ (n - k ≤ p ∧ p < n)
        · rw [if_pos h3, if_pos (by omega)]
        · rw [if_neg h3, if_neg (by omega)]
  · have d1 : cm .lss (k : Int) ((n : Int) - 1 - (k : Int)) = false := cm_lo' (by omega)
    repeat (first | refine C.seq ?_ | refine C.region ?_ | refine L.nil ?_ | refine D.seq ?_ | refine L.move (k := ?_) | refine L.cm (c := ?_) | refine C.no (h1 := ?_) | refine C.exit ?_ | refine D.thenExit ?_ | refine D.blkExit ?_)
    refine D.fin (vs := []) RV.nil (fun w' hw => Post.mk (is := [0]) hw (by decide) rfl ⟨rfl, l1, hl1, fun p => ?_, rfl⟩)
    rw [hg p]
    unfold rv
    by_cases h : p < n
    · rw [if_pos h]
      by_cases h2 : p < k ∨ (n - k ≤ p ∧ p < n)
      · rw [if_pos h2]
      · rw [if_neg h2, show n - 1 - p = p by omega]
    · rw [if_neg h, if_neg (by omega)]
/-- A low digit's value; 16. -/
def hx (c : Nat) : Nat := if 48 ≤ c ∧ c ≤ 57 then c - 48 else if 97 ≤ c ∧ c ≤ 102 then c - 87 else 16
def hxI (c : Nat) : Int := if hx c < 16 then hx c else -1
abbrev hexB : ByteArray := ⟨#[48, 49, 50, 51, 52, 53, 54, 55, 56, 57, 97, 98, 99, 100, 101, 102]⟩
theorem find_hex : ∀ n, n < 256 → ((List.range 16).find? fun i => hexB[i]! == UInt8.ofNat n) = if hx n < 16 then some (hx n) else none := by decide +kernel
theorem indexX (c : UInt8) (w : World) : (callFunc 78 [.string hexB, .int .u8 (c.toNat : Int)].toArray).run Tryd.prog w = .ok (.value (.int .i64 (hxI c.toNat))) w := by
  rw [run_callFunc_standIn (e := Extern.BytealgIndexByte.indexByte) Tryd.func78 (by kernel_rfl) (by kernel_rfl) (by kernel_rfl) (by kernel_rfl)]
  have h := find_hex c.toNat c.toNat_lt
  rw [UInt8.ofNat_toNat] at h
  have hu : (c.toNat : Int).toNat.toUInt8 = c := by simp
  have e : Extern.BytealgIndexByte.indexByte [.string hexB, .int .u8 (c.toNat : Int)].toArray = (match (List.range 16).find? (fun i => hexB[i]! == (c.toNat : Int).toNat.toUInt8) with | some i => (pure (goInt i) : Sem Value) | none => pure (goInt (-1))) := rfl
  rw [e, hu, h]
  unfold hxI
  by_cases h2 : hx c.toNat < 16
  · rw [if_pos h2, if_pos h2]; rfl
  · rw [if_neg h2, if_neg h2]; rfl
theorem index_S (c : UInt8) : Ctr Tryd.prog 47 [.string hexB, .int .u8 (c.toNat : Int)] [] tt (is (.int .i64 (hxI c.toNat)) []) := by
  have h1 : Ctr Tryd.prog 67 [.string hexB, .int .u8 (c.toNat : Int)] [] tt (is (.int .i64 (hxI c.toNat)) []) := by
    refine Ctr.enter Tryd.func67 Tryd.ntmps67 rfl rfl (fun w _ => ?_)
    repeat (first | refine C.seq ?_ | refine C.region ?_ | refine L.nil ?_ | refine D.seq ?_ | refine L.move (k := ?_) | refine L.assign (k := ?_) | refine C.ret ?_ | refine L.callX (indexX c) (k := ?_))
    (refine D.ret (vs := [_]) (RV.tmp rfl RV.nil) ?_; intro w' hw; exact Post.mk (is := []) hw List.nodup_nil rfl ⟨rfl, rfl⟩)
  refine Ctr.enter Tryd.func47 Tryd.ntmps47 rfl rfl (fun w _ => ?_)
  repeat (first | refine C.seq ?_ | refine C.region ?_ | refine L.nil ?_ | refine D.seq ?_ | refine L.move (k := ?_) | refine L.assign (k := ?_) | refine C.ret ?_ | refine L.callQ (h1) (k := ?_))
  (refine D.ret (vs := [_]) (RV.tmp rfl RV.nil) ?_; intro w' hw; exact Post.mk (is := []) hw List.nodup_nil rfl ⟨rfl, rfl⟩)
end Go.Proofs.YtpemoeincepilaaDoor.Nt
