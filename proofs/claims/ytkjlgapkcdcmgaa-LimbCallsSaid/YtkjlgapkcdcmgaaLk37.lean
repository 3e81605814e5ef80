/- keysmithref12.Run: plain: what it begins with, what it answers. -/
import Derived.Test.YtkjlgapkcdcmgaaLk35
set_option linter.unusedVariables false
set_option linter.unusedSimpArgs false
namespace Go.Proofs.Ytkjlgapkcdcmgaa
open Go Go.RowKit SL
section
variable {P : Program} {Q : Exit → Act → World → Prop} {s : St} {E : Env} {M : Hp} {x y : Code}
/-- .. where the first piece is entered. -/
theorem SL.C.joinK {α : Type} (G : α → Prop) (EI : α → Env) (MI : α → Hp) (h : C P x (Exit.then (fun a w => ∃ z, G z ∧ Sat s (EI z) (MI z) a w) Q) s E M)
    (k : ∀ z, G z → C P y Q s (EI z) (MI z)) : C P x (Exit.then (y.wpIn (fen s.ro) 0 P Q) Q) s E M := by
  intro a w hs
  refine wpIn_mono (h a w hs) ?_
  intro e a' w' hq
  cases e with
  | normal => obtain ⟨z, hz, hsz⟩ := hq; exact k z hz a' w' hsz
  | exit id => exact hq
  | goto l => exact hq
  | ret => exact hq
  | panic ch => exact hq
  | outgrown => exact hq
end
attribute [local irreducible] SL.L SL.C SL.D SL.N SL.H SL.QL SL.QW SL.QP

theorem setL_none : ∀ (vs : List Value) (l : List Value) (o : Nat), l.length ≤ o → setL l o vs = l
  | [], _, _, _ => rfl
  | v :: vs, l, o, h => by
    show setL (l.set o v) (o + 1) vs = l
    rw [List.set_eq_of_length_le h, setL_none vs l (o + 1) (by omega)]
theorem setL_zero (vs l : List Value) (h : vs.length ≤ l.length) : setL l 0 vs = vs ++ l.drop vs.length := by
  have := setL_all vs [] (l.drop vs.length) (l.take vs.length) (by simp; omega)
  simpa using this
def initRow (b : Bf) (r : List Int) : List Int := r ++ List.replicate (b.size.toNat - r.length) 0
def initB (bs : List Bf) (rs : Rws) : List (List Int) := (bs.zip rs).map (fun x => initRow x.1 x.2.2)
def initS (regs : Int) (bs : List Bf) (rs : Rws) : RS := ⟨List.replicate regs.toNat 0, initB bs rs, []⟩
theorem rows_ok {bs : List Bf} {rs : Rws} (h : rowsM bs rs = true) : rs.length = bs.length ∧ ∀ (i : Nat) (b : Bf) (r : Value × List Int), bs[i]? = some b → rs[i]? = some r → okRow b r.2.length = true := by
  unfold rowsM at h
  rw [Bool.and_eq_true, decide_eq_true_eq] at h
  refine ⟨h.1, fun i b r hb hr => ?_⟩
  exact List.all_eq_true.1 h.2 _ (List.mem_of_getElem? (zip_at hb hr))
theorem okRow_le {b : Bf} {n : Nat} (h : okRow b n = true) (hs : 1 ≤ b.size) : n ≤ b.size.toNat := by
  unfold okRow at h
  split at h
  · have : (n : Int) = 0 := by simpa [cm] using h
    omega
  · have : (n : Int) = b.size := by simpa [cm] using h
    omega
theorem buf_size {regs : Int} {bs : List Bf} {os : List Lop} (h : rhead regs bs os.length = none) : ∀ b ∈ bs, 1 ≤ b.size ∧ b.size ≤ 65536 := by
  intro b hb
  unfold rhead at h
  split at h
  · cases h
  · split at h
    · cases h
    · rename_i h1
      split at h
      · cases h
      · split at h
        · cases h
        · rename_i h2
          have g1 : ¬ (cm .gtr b.size 65536 = true) := fun e => h1 (List.any_eq_true.2 ⟨b, hb, e⟩)
          have g2 : ¬ (((cm .lss b.size 1 || cm .lss b.kind 1) || cm .gtr b.kind 3) = true) := fun e => h2 (List.any_eq_true.2 ⟨b, hb, e⟩)
          simp [cm] at g1 g2
          omega
theorem initB_len {bs : List Bf} {rs : Rws} (h : rs.length = bs.length) : (initB bs rs).length = bs.length := by
  unfold initB; simp [h]
theorem initB_at {bs : List Bf} {rs : Rws} {i : Nat} {b : Bf} {r : Value × List Int} (hb : bs[i]? = some b) (hr : rs[i]? = some r) : (initB bs rs)[i]? = some (initRow b r.2) := by
  unfold initB; rw [List.getElem?_map, zip_at hb hr]; rfl
theorem initRow_len {b : Bf} {r : List Int} (h : r.length ≤ b.size.toNat) : (initRow b r).length = b.size.toNat := by
  unfold initRow; simp; omega
theorem initRow_map {b : Bf} {r : List Int} (h : r.length ≤ b.size.toNat) : setL (List.replicate b.size.toNat (.int .u64 0)) 0 (r.map u64) = (initRow b r).map u64 := by
  rw [setL_zero _ _ (by simpa using h)]
  unfold initRow
  rw [List.map_append, List.map_replicate, List.drop_replicate, List.length_map]
theorem Goes.inv {os : List Lop} {f : FS} {n : Nat} {x : RS × Bool} (h : Goes os f n (.inr x)) : fstep os f = .inr x ∨ ∃ g m, n = m + 1 ∧ fstep os f = .inl g ∧ Goes os g m (.inr x) := by
  generalize hy : (Sum.inr x : FS ⊕ (RS × Bool)) = y at h
  cases h with
  | here => cases hy
  | done hd => cases hy; exact .inl hd
  | go hs k => subst hy; exact .inr ⟨_, _, rfl, hs, k⟩
abbrev nilV : Value := .slice none 0 0
/-- What keysmithref12.Run answers. -/
def run12R (regs : Int) (bs : List Bf) (os : List Lop) (rs : Rws) (u : Value) (B : Hp) : Prop :=
  if (checkM regs bs os).2 ≠ 0 then u = shut [nilV, nilV, .int .i64 (checkM regs bs os).2] ∧ B = []
  else if 16777216 < stepsM os then u = shut [nilV, nilV, .int .i64 10] ∧ B = []
  else if rowsM bs rs = false then u = shut [nilV, nilV, .int .i64 2] ∧ B = []
  else ∃ n x h, Goes os ⟨0, true, initS regs bs rs⟩ n (.inr x) ∧ RunG x.1 h ∧
    ((x.2 = true ∧ u = shut [osV x.1.bufs.length h.y, osV x.1.l.length h.ly, .int .i64 0] ∧ B = osC 47 h.y [] ++ (rowsHp h.ys ++ osC 55 h.ly [])) ∨
     (x.2 = false ∧ u = shut [nilV, osV x.1.l.length h.ly, .int .i64 11] ∧ B = osC 55 h.ly []))
end Go.Proofs.Ytkjlgapkcdcmgaa
namespace Go.Proofs.Ytkjlgapkcdcmgaa
open Go Go.RowKit SL
attribute [local irreducible] SL.L SL.C SL.D SL.N SL.H SL.QL SL.QW SL.QP

def turnV (fill v : Int) : Int := ar .add .u64 (ar .mul .u64 v 3) fill
def turnR (fill : Int) (b : Bf) (r : List Int) : List Int := if b.sec then r.map (turnV fill) else r
def turned (fill : Int) (bs : List Bf) (ls : List (List Int)) : List (List Int) := (bs.zip ls).map (fun x => turnR fill x.1 x.2)
def rwsOf (ls : List (List Int)) (ys : List OS) : Rws := (ls.zip ys).map fun x => (osV x.1.length x.2, x.1)
theorem turnR_len (fill : Int) (b : Bf) (r : List Int) : (turnR fill b r).length = r.length := by unfold turnR; split <;> simp
theorem rwsOf_at {ls : List (List Int)} {ys : List OS} {i : Nat} {l : List Int} {y : OS} (h1 : ls[i]? = some l) (h2 : ys[i]? = some y) : (rwsOf ls ys)[i]? = some (osV l.length y, l) := by
  unfold rwsOf; rw [List.getElem?_map, zip_at h1 h2]; rfl
theorem rwsOf_len {ls : List (List Int)} {ys : List OS} (h : ys.length = ls.length) : (rwsOf ls ys).length = ls.length := by unfold rwsOf; simp [h]
theorem rwsOf_fst {ls : List (List Int)} {ys : List OS} : (rwsOf ls ys).map (·.1) = rowsV ls ys := by unfold rwsOf rowsV; rw [List.map_map]; rfl
theorem own_rdR {w0 w : World} {A : List Nat} {M : Hp} {ls : List (List Int)} {ys : List OS} {y : OS} {n : Nat} (hR : rowsG ls ys) (hn : ls.length = n) (hG : osG 1 n (rowsV ls ys) y) (hw : At w0 A M w) (hy : ∀ x ∈ osC 47 y [], x ∈ M) (hs : ∀ x ∈ rowsHp ys, x ∈ M) : RdR w [] (osV n y) (rwsOf ls ys) := by
  have hl : (rwsOf ls ys).length = n := by rw [rwsOf_len hR.1, hn]
  refine ⟨?_, fun r hr => ?_⟩
  · rw [hl, rwsOf_fst]; exact hG.rdm hw hy
  · obtain ⟨i, hi⟩ := List.mem_iff_getElem?.1 hr
    have hil : i < ls.length := by have := (List.getElem?_eq_some_iff.1 hi).1; omega
    obtain ⟨l, h1⟩ : ∃ l, ls[i]? = some l := ⟨_, List.getElem?_eq_getElem hil⟩
    obtain ⟨yi, h2⟩ : ∃ yi, ys[i]? = some yi := ⟨_, List.getElem?_eq_getElem (by rw [hR.1]; exact hil)⟩
    rw [rwsOf_at h1 h2] at hi
    cases hi
    refine (hR.2 i l yi h1 h2).rdm (T := 37) hw (fun x hx => hs x ?_)
    unfold rowsHp
    exact List.mem_flatMap.2 ⟨yi, List.mem_of_getElem? h2, hx⟩
theorem turned_len {fill : Int} {bs : List Bf} {ls : List (List Int)} (h : ls.length = bs.length) : (turned fill bs ls).length = bs.length := by unfold turned; simp [h]
theorem turned_at {fill : Int} {bs : List Bf} {ls : List (List Int)} {i : Nat} {b : Bf} {l : List Int} (h1 : bs[i]? = some b) (h2 : ls[i]? = some l) : (turned fill bs ls)[i]? = some (turnR fill b l) := by
  unfold turned; rw [List.getElem?_map, zip_at h1 h2]; rfl
theorem zip_all {α β γ : Type} {p : α × β → Bool} {q : α × γ → Bool} : ∀ {xs : List α} {ys : List β} {zs : List γ}, ys.length = zs.length → (∀ (i : Nat) x y z, xs[i]? = some x → ys[i]? = some y → zs[i]? = some z → p (x, y) = q (x, z)) → (xs.zip ys).all p = (xs.zip zs).all q
  | [], ys, zs, _, _ => rfl
  | x :: xs, [], [], _, _ => rfl
  | x :: xs, y :: ys, z :: zs, hl, h => by
    simp only [List.zip_cons_cons, List.all_cons]
    rw [h 0 x y z rfl rfl rfl, zip_all (by simpa using hl) (fun i a b c h1 h2 h3 => h (i + 1) a b c (by simpa using h1) (by simpa using h2) (by simpa using h3))]
/-- What is told of the rows that are turned. -/
structure Trn (fill : Int) (bs : List Bf) (rs : Rws) (rb : Rws) : Prop where
  l1 : rs.length = bs.length
  l2 : rb.length = bs.length
  at_ : ∀ (i : Nat) (b : Bf) (r q : Value × List Int), bs[i]? = some b → rs[i]? = some r → rb[i]? = some q → q.2 = turnR fill b r.2
theorem trn_of {fill : Int} {bs : List Bf} {rs : Rws} {ys : List OS} (h1 : rs.length = bs.length) (h2 : ys.length = bs.length) : Trn fill bs rs (rwsOf (turned fill bs (rs.map (·.2))) ys) := by
  have hl : (turned fill bs (rs.map (·.2))).length = bs.length := turned_len (by simpa using h1)
  refine ⟨h1, by rw [rwsOf_len (by omega), hl], fun i b r q hb hr hq => ?_⟩
  have hi : i < bs.length := (List.getElem?_eq_some_iff.1 hb).1
  obtain ⟨y, hy⟩ : ∃ y, ys[i]? = some y := ⟨_, List.getElem?_eq_getElem (by omega)⟩
  rw [rwsOf_at (turned_at hb (by rw [List.getElem?_map, hr]; rfl)) hy] at hq
  cases hq; rfl
theorem Trn.rows {fill : Int} {bs : List Bf} {rs rb : Rws} (h : Trn fill bs rs rb) : rowsM bs rb = rowsM bs rs := by
  unfold rowsM sizesM
  rw [h.l1, h.l2]
  congr 1
  refine zip_all (by rw [h.l1, h.l2]) (fun i b q r hb hq hr => ?_)
  have := h.at_ i b r q hb hr hq
  simp only
  rw [this, turnR_len]
theorem Trn.pub {fill regs : Int} {bs : List Bf} {os : List Lop} {rs rb : Rws} (h : Trn fill bs rs rb) (he : (checkM regs bs os).2 = 0) : publicM regs bs os rs rb = rowsM bs rs := by
  unfold publicM
  rw [h.rows, decide_eq_true he, Bool.true_and, Bool.and_self]
  have : pubM bs rs rb = true := by
    unfold pubM
    rw [List.all_eq_true]
    intro x hx
    obtain ⟨i, hi⟩ := List.mem_iff_getElem?.1 hx
    obtain ⟨b, r, q⟩ := x
    rw [List.getElem?_zip_eq_some] at hi
    obtain ⟨hb, hi⟩ := hi
    rw [List.getElem?_zip_eq_some] at hi
    have := h.at_ i b r q hb hi.1 hi.2
    unfold pubOne
    simp only at this ⊢
    rw [this]
    unfold turnR
    cases b.sec <;> simp
  rw [this, Bool.and_true]
theorem bufAt_init (regs : Int) (bs : List Bf) (rs : Rws) (k : Int) : bufAt (initS regs bs rs) k = ((initB bs rs)[k.toNat]?).getD [] := rfl
/-- The two runs begin alike. -/
theorem Trn.ni {fill regs : Int} {bs : List Bf} {os : List Lop} {rs rb : Rws} {m : Nat} (h : Trn fill bs rs rb) (hro : rowsM bs rs = true) (hz : rhead regs bs os.length = none) : NI bs m (initS regs bs rs) (initS regs bs rb) := by
  obtain ⟨hl, hok⟩ := rows_ok hro
  have hsz := buf_size hz
  have key : ∀ k : Int, (∃ b r q, bs[k.toNat]? = some b ∧ rs[k.toNat]? = some r ∧ rb[k.toNat]? = some q ∧ bufAt (initS regs bs rs) k = initRow b r.2 ∧ bufAt (initS regs bs rb) k = initRow b q.2 ∧ q.2 = turnR fill b r.2 ∧ r.2.length ≤ b.size.toNat ∧ bAt bs k = b) ∨ (bufAt (initS regs bs rs) k = [] ∧ bufAt (initS regs bs rb) k = []) := by
    intro k
    rcases Nat.lt_or_ge k.toNat bs.length with hk | hk
    · left
      obtain ⟨b, hb⟩ : ∃ b, bs[k.toNat]? = some b := ⟨_, List.getElem?_eq_getElem hk⟩
      obtain ⟨r, hr⟩ : ∃ r, rs[k.toNat]? = some r := ⟨_, List.getElem?_eq_getElem (by rw [h.l1]; exact hk)⟩
      obtain ⟨q, hq⟩ : ∃ q, rb[k.toNat]? = some q := ⟨_, List.getElem?_eq_getElem (by rw [h.l2]; exact hk)⟩
      refine ⟨b, r, q, hb, hr, hq, by rw [bufAt_init, initB_at hb hr]; rfl, by rw [bufAt_init, initB_at hb hq]; rfl, h.at_ _ b r q hb hr hq, okRow_le (hok _ b r hb hr) (hsz b (List.mem_of_getElem? hb)).1, by unfold bAt; rw [hb]; rfl⟩
    · right
      refine ⟨?_, ?_⟩
      · rw [bufAt_init, List.getElem?_eq_none (by rw [initB_len h.l1]; exact hk)]; rfl
      · rw [bufAt_init, List.getElem?_eq_none (by rw [initB_len h.l2]; exact hk)]; rfl
  refine ⟨rfl, fun _ _ _ => rfl, ?_, fun k => ?_, fun k hk => ?_, rfl⟩
  · show (initB bs rs).length = (initB bs rb).length
    rw [initB_len h.l1, initB_len h.l2]
  · rcases key k with ⟨b, r, q, _, _, _, e1, e2, e3, e4, _⟩ | ⟨e1, e2⟩
    · rw [e1, e2, initRow_len e4, initRow_len (by rw [e3, turnR_len]; exact e4)]
    · rw [e1, e2]
  · rcases key k with ⟨b, r, q, _, _, _, e1, e2, e3, _, e5⟩ | ⟨e1, e2⟩
    · rw [e1, e2, e3]
      rw [e5] at hk
      unfold turnR; rw [hk]; simp
    · rw [e1, e2]
theorem secRun_ok {bs : List Bf} {m : Nat} : ∀ (os : List Lop) (i : Nat), (secRun bs m os i).2 = 0 → ∀ o ∈ os, badM bs m o = false
  | [], _, _, o, ho => by cases ho
  | p :: os, i, h, o, ho => by
    unfold secRun at h
    split at h
    · simp at h
    · rename_i hb
      rcases List.mem_cons.1 ho with rfl | ho
      · simpa using hb
      · exact secRun_ok os (i + 1) h o ho
theorem pub_ok {regs : Int} {bs : List Bf} {os : List Lop} {m : Nat} (he : (checkM regs bs os).2 = 0) (hl : Least bs os m) (hs : (secRun bs m os 0).2 = 0) : Pub regs bs os m := by
  obtain ⟨_, h0, h64, h32, hno, hh, hrf⟩ := check_ok he
  have hrun : (rrun regs bs os 0 ⟨List.replicate regs.toNat false, []⟩).2 = 0 := by
    have := he; unfold checkM at this; rw [hh] at this; exact this
  exact ⟨hrf, fun o ho => hl.1 o ho, secRun_ok os 0 hs, fun j hj hk => stk_len os 0 ⟨List.replicate regs.toNat false, []⟩ rfl hrun rfl j (Nat.zero_le _) hj hk⟩
theorem lightRows_ok {rs : Rws} (h : lightRowsM rs = true) : rs.length ≤ 40 ∧ ∀ r ∈ rs, r.2.length ≤ 600 := by
  unfold lightRowsM at h
  rw [Bool.and_eq_true] at h
  have h1 : (rs.length : Int) ≤ 40 := by simpa [cm] using h.2
  have h2 := h.1
  rw [List.take_of_length_le (by omega), List.all_eq_true] at h2
  refine ⟨by omega, fun r hr => ?_⟩
  have := h2 r hr
  have : (r.2.length : Int) ≤ 600 := by simpa [cm] using this
  omega
def rowK (fill : Int) (r : List Int) (k : Nat) : List Int := (r.take k).map (turnV fill) ++ r.drop k
theorem rowK_len (fill : Int) (r : List Int) {k : Nat} (h : k ≤ r.length) : (rowK fill r k).length = r.length := by unfold rowK; simp; omega
theorem rowK_at {fill : Int} {r : List Int} {k : Nat} {x : Int} (h : r[k]? = some x) : (rowK fill r k)[k]? = some x := by
  have hk := (List.getElem?_eq_some_iff.1 h).1
  unfold rowK
  rw [List.getElem?_append_right (by simp; omega)]
  simp only [List.length_map, List.length_take, Nat.min_eq_left (Nat.le_of_lt hk), Nat.sub_self]
  rw [List.getElem?_drop, Nat.add_zero, h]
theorem rowK_succ {fill : Int} {r : List Int} {k : Nat} {x : Int} (h : r[k]? = some x) : (rowK fill r k).set k (turnV fill x) = rowK fill r (k + 1) := by
  have hk := (List.getElem?_eq_some_iff.1 h).1
  have hx := (List.getElem?_eq_some_iff.1 h).2
  unfold rowK
  have hl : ((r.take k).map (turnV fill)).length = k := by simp; omega
  rw [List.set_append_right _ _ (by omega), hl, Nat.sub_self, List.drop_eq_getElem_cons hk, hx, List.set_cons_zero, List.take_add_one, h, List.map_append, List.append_assoc]
  rfl
theorem rowK_all (fill : Int) (r : List Int) : rowK fill r r.length = r.map (turnV fill) := by unfold rowK; simp
theorem turnR_end {fill : Int} {b : Bf} {r : List Int} {k : Nat} (hk : k = 0 ∨ b.sec = true) (he : k = r.length ∨ b.sec = false) : rowK fill r k = turnR fill b r := by
  unfold turnR
  cases hs : b.sec with
  | true =>
    rcases he with rfl | h
    · rw [rowK_all]; simp
    · rw [hs] at h; cases h
  | false =>
    rcases hk with rfl | h
    · simp [rowK]
    · rw [hs] at h; cases h
theorem turned_eq {fill : Int} {bs : List Bf} {rs : Rws} {ls : List (List Int)} (hl : ls.length = bs.length) (h : rs.length = bs.length) (hp : ∀ (j : Nat) (b : Bf) (r : Value × List Int), bs[j]? = some b → rs[j]? = some r → ls[j]? = some (turnR fill b r.2)) : ls = turned fill bs (rs.map (·.2)) := by
  have ht : (turned fill bs (rs.map (·.2))).length = bs.length := turned_len (by simpa using h)
  apply List.ext_getElem?
  intro j
  rcases Nat.lt_or_ge j bs.length with hj | hj
  · obtain ⟨b, hb⟩ : ∃ b, bs[j]? = some b := ⟨_, List.getElem?_eq_getElem hj⟩
    obtain ⟨r, hr⟩ : ∃ r, rs[j]? = some r := ⟨_, List.getElem?_eq_getElem (by omega)⟩
    rw [hp j b r hb hr, turned_at hb (by rw [List.getElem?_map, hr]; rfl)]
  · rw [List.getElem?_eq_none (by omega), List.getElem?_eq_none (by omega)]
theorem Goes.keep {regs : Int} {bs : List Bf} {os : List Lop} (hrf : ∀ o ∈ os, rfields regs bs o = true) (hstk : ∀ j, j < os.length → (opAt os j).k = 17 → stkAt os j ≠ []) {f : FS} {n : Nat} {x : RS × Bool} (h : Goes os f n (.inr x)) : x.1.bufs.length = f.s.bufs.length ∧ ∀ k, (bufAt x.1 k).length = (bufAt f.s k).length := by
  generalize hy : (Sum.inr x : FS ⊕ (RS × Bool)) = y at h
  induction h with
  | here f => cases hy
  | done hd => cases hy; rw [fstep_end hd]; exact ⟨rfl, fun _ => rfl⟩
  | go hs _ ih =>
    obtain ⟨_, _, _, h1, h2, _⟩ := fstep_keep hrf hstk hs
    obtain ⟨k1, k2⟩ := ih hy
    exact ⟨k1.trans h1, fun k => (k2 k).trans (h2 k)⟩
theorem init_small {regs : Int} {bs : List Bf} {os : List Lop} {rs : Rws} (hro : rowsM bs rs = true) (hz : rhead regs bs os.length = none) : ∀ k, (bufAt (initS regs bs rs) k).length ≤ 65536 := by
  obtain ⟨hl, hok⟩ := rows_ok hro
  have hsz := buf_size hz
  intro k
  rw [bufAt_init]
  rcases Nat.lt_or_ge k.toNat bs.length with hk | hk
  · obtain ⟨b, hb⟩ : ∃ b, bs[k.toNat]? = some b := ⟨_, List.getElem?_eq_getElem hk⟩
    obtain ⟨r, hr⟩ : ∃ r, rs[k.toNat]? = some r := ⟨_, List.getElem?_eq_getElem (by omega)⟩
    have h1 := hsz b (List.mem_of_getElem? hb)
    rw [initB_at hb hr]
    simp only [Option.getD_some]
    rw [initRow_len (okRow_le (hok _ b r hb hr) h1.1)]; omega
  · rw [List.getElem?_eq_none (by rw [initB_len hl]; exact hk)]; simp
/-- A run's end: what is known of it. -/
theorem run_end {regs : Int} {bs : List Bf} {os : List Lop} {m : Nat} {rs : Rws} {n : Nat} {x : RS × Bool} (he : (checkM regs bs os).2 = 0) (hP : Pub regs bs os m) (hst : stepsM os ≤ 5000) (hro : rowsM bs rs = true) (h : Goes os ⟨0, true, initS regs bs rs⟩ n (.inr x)) :
    x.1.l.length ≤ 5000 ∧ x.1.bufs.length = bs.length ∧ ∀ k, (bufAt x.1 k).length ≤ 65536 := by
  obtain ⟨_, _, _, _, _, hh, hrf⟩ := check_ok he
  obtain ⟨p, hp, hpS, hgo0⟩ := goes_all he
  obtain ⟨n0, hn0⟩ := hgo0 (initS regs bs rs) (by simp [initS])
  have hx := h.one hn0
  obtain ⟨k1, k2⟩ := Goes.keep hrf hP.stk h
  refine ⟨?_, by rw [k1]; exact initB_len (rows_ok hro).1, fun k => by rw [k2 k]; exact init_small hro hh k⟩
  have h1 := exec_len p 0 (initS regs bs rs)
  have h2 := cnt_steps hpS (by rw [← hp]; omega)
  rw [← hp] at h2
  rw [← hx] at h1
  have h3 : (initS regs bs rs).l.length = 0 := rfl
  rw [h3] at h1
  cases hx2 : x.2 with
  | true => have := h1.1 hx2; omega
  | false => have := h1.2 hx2; omega
theorem two_runs {regs fill : Int} {bs : List Bf} {os : List Lop} {m : Nat} {rs rb : Rws} {n1 n2 : Nat} {x1 x2 : RS × Bool} (hP : Pub regs bs os m) (hT : Trn fill bs rs rb) (hro : rowsM bs rs = true) (hz : rhead regs bs os.length = none)
    (h1 : Goes os ⟨0, true, initS regs bs rs⟩ n1 (.inr x1)) (h2 : Goes os ⟨0, true, initS regs bs rb⟩ n2 (.inr x2)) : x1.2 = x2.2 ∧ NI bs m x1.1 x2.1 := by
  obtain ⟨s1, ok⟩ := x1
  obtain ⟨t', k1, k2⟩ := goes_ni hP h1 (initS regs bs rb) (hT.ni hro hz)
  have := k1.one h2
  subst this
  exact ⟨rfl, k2⟩
theorem at_nilr {w0 w : World} {A : List Nat} {M : Hp} (h : At w0 A M w) : At w0 A (M ++ []) w := by rw [List.append_nil]; exact h
end Go.Proofs.Ytkjlgapkcdcmgaa
