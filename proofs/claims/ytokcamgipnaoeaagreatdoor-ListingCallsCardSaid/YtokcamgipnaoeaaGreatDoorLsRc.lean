/- Listing, the document's answer: Inst tells what listing.Inst tells. Conditions: numbers are numbers of 64 bits. -/
import Derived.Test.YtokcamgipnaoeaaGreatDoorLsRb
set_option linter.unusedVariables false
set_option linter.unusedSimpArgs false
namespace Go.Proofs.YtokcamgipnaoeaaGreatDoor.Ls
open Go Go.RowKit SL Go.Shelf
attribute [local irreducible] SL.L SL.C SL.D SL.N SL.H SL.QL SL.QW SL.QP

theorem has_L (op c : Int) : Ctr Tryz.prog 24 [.string (formB op), .int .u8 c] [] tt (is (.bool (hasC (formB op) c)) []) :=
  spec_n (fun w _ => (rhas_any (formB op) c w (Rk.formB_size op)).mono (by rintro e w' ⟨rfl, rfl⟩; exact ⟨rfl, Below.refl _ _⟩))
theorem form_L (op : Int) : Ctr Tryz.prog 22 [.int .i64 op] [] tt (is (.string (formB op)) []) :=
  spec_n (fun w _ => (form_any op w).mono (by rintro e w' ⟨rfl, rfl⟩; exact ⟨rfl, Below.refl _ _⟩))
/-- What stands of an operation's form. -/
structure Fl where
  b0 : Bool
  bD : Bool
  bS : Bool
  bT : Bool
  bM : Bool
  bj : Bool
  bn : Bool
def flOf (op : Int) : Fl := ⟨decide (op = 4), hasC (formB op) 68, hasC (formB op) 83, hasC (formB op) 84, hasC (formB op) 77 && !decide (op = 4), jmpB op, hasC (formB op) 105 || hasC (formB op) 73 || hasC (formB op) 98⟩
def letters (f : Fl) : List UInt8 := (if f.b0 then [77] else []) ++ (if f.bD then [68] else []) ++ (if f.bS then [83] else []) ++ (if f.bT then [84] else []) ++ (if f.bM then [77] else []) ++ (if f.bj then [106] else if f.bn then [110] else [])
set_option maxRecDepth 100000 in
theorem letters_all : ((List.range 34).all fun k => k == 0 || letters (flOf (k : Int)) == shapeB (k : Int)) = true := by decide +kernel
theorem letters_op (op : Int) (h : 1 ≤ op ∧ op ≤ 33) : letters (flOf op) = shapeB op := by
  obtain ⟨n, rfl⟩ := Int.eq_ofNat_of_zero_le (by omega : 0 ≤ op)
  have := List.all_eq_true.1 letters_all n (List.mem_range.2 (by omega))
  have e1 : (n == 0) = false := by simp; omega
  simpa [e1] using this
def rl0 (i : Ins) (f : Fl) : List (List UInt8) := if f.b0 then [placeT i.mb i.mi i.ms i.md] else []
def rl1 (i : Ins) (f : Fl) : List (List UInt8) := rl0 i f ++ if f.bD then [regT i.d] else []
def rl2 (i : Ins) (f : Fl) : List (List UInt8) := rl1 i f ++ if f.bS then [regT i.s] else []
def rl3 (i : Ins) (f : Fl) : List (List UInt8) := rl2 i f ++ if f.bT then [regT i.t] else []
def rl4 (i : Ins) (f : Fl) : List (List UInt8) := rl3 i f ++ if f.bM then [placeT i.mb i.mi i.ms i.md] else []
def rl5 (i : Ins) (f : Fl) : List (List UInt8) := rl4 i f ++ if f.bj then [distT i.im] else if f.bn then [Lib.itoa i.im] else []
theorem rl5_eq (i : Ins) (f : Fl) : rl5 i f = (letters f).map fun c => (opd1 i c).txt := by
  obtain ⟨b0, bD, bS, bT, bM, bj, bn⟩ := f
  cases b0 <;> cases bD <;> cases bS <;> cases bT <;> cases bM <;> cases bj <;> cases bn <;> rfl
theorem rl5_opds (i : Ins) (hc : i.chk = true) : rl5 i (flOf i.op) = (opds i).map Opd.txt := by
  rw [rl5_eq, letters_op i.op (chk_range hc)]
  unfold opds
  rw [List.map_map]; rfl
def rcat (nm : List UInt8) : List (List UInt8) → List UInt8
  | [] => nm
  | x :: xs => nm ++ [32] ++ Lib.join (x :: xs) [44, 32]
theorem join_snoc : ∀ (xs : List (List UInt8)) (x y sep : List UInt8), Lib.join (x :: xs ++ [y]) sep = Lib.join (x :: xs) sep ++ sep ++ y
  | [], x, y, sep => by
    show Lib.join (x :: y :: []) sep = _
    rw [join_two, Lib.join_one, Lib.join_one]
  | z :: xs, x, y, sep => by
    show Lib.join (x :: z :: (xs ++ [y])) sep = _
    rw [join_two, join_two]
    have := join_snoc xs z y sep
    rw [List.cons_append] at this
    rw [this]; simp
theorem rcat_step (nm : List UInt8) (l : List (List UInt8)) (k : Nat) (x : List UInt8) (h : l[k]? = some x) : rcat nm (l.take (k + 1)) = rcat nm (l.take k) ++ (if k = 0 then [32] else [44, 32]) ++ x := by
  rw [List.take_add_one, h]
  cases l with
  | nil => cases h
  | cons a r =>
    cases k with
    | zero =>
      rw [if_pos rfl]
      show nm ++ [32] ++ Lib.join [x] [44, 32] = _
      rw [Lib.join_one]; rfl
    | succ k =>
      rw [if_neg (by omega)]
      show rcat nm (a :: r.take k ++ [x]) = rcat nm (a :: r.take k) ++ [44, 32] ++ x
      show nm ++ [32] ++ Lib.join (a :: r.take k ++ [x]) [44, 32] = nm ++ [32] ++ Lib.join (a :: r.take k) [44, 32] ++ [44, 32] ++ x
      rw [join_snoc]; simp
theorem rcat_len (nm : List UInt8) (l : List (List UInt8)) (h : ∀ x ∈ l, x.length ≤ 60) : (rcat nm l).length ≤ nm.length + 1 + l.length * 62 := by
  cases l with
  | nil => show nm.length ≤ _; omega
  | cons a r =>
    have := join_len (a :: r) 60 h
    show (nm ++ [32] ++ Lib.join (a :: r) [44, 32]).length ≤ _
    simp only [List.length_append, List.length_cons, List.length_nil] at this ⊢
    omega
theorem rcat_inst (i : Ins) (ho : i.ok) (hc : i.chk = true) : rcat (nameT i.op) (rl5 i (flOf i.op)) = instT i := by
  rw [rl5_opds i hc]
  rcases instT_eq i ho hc with ⟨h1, h2⟩ | ⟨h1, h2⟩
  · rw [h2, h1]; rfl
  · rw [h2]
    cases h : opds i with
    | nil => exact absurd h h1
    | cons x xs => rfl
theorem rl5_len (i : Ins) (ho : i.ok) (hc : i.chk = true) : (∀ x ∈ rl5 i (flOf i.op), x.length ≤ 60) ∧ (rl5 i (flOf i.op)).length ≤ 3 := by
  rw [rl5_opds i hc]
  refine ⟨fun x hx => ?_, by unfold opds; rw [List.length_map, List.length_map]; exact shape_len i.op⟩
  obtain ⟨o, h, rfl⟩ := List.mem_map.1 hx
  obtain ⟨c, _, rfl⟩ := List.mem_map.1 h
  exact txt_len _ (opd1_ok ho c)
set_option maxRecDepth 100000 in
set_option maxHeartbeats 32000000 in
theorem rinst_S (i : Ins) (h : i.ok) : Ctr Tryz.prog 7 [i.val] [] tt (two (tx (outT i)) (.int .i64 (errOf i.chk))) := by
  have hC := rcheck_L i
  refine Ctr.enter Tryz.func7 Tryz.ntmps7 rfl rfl (fun w _ => ?_)
  cases hc : i.chk with
  | false =>
    rw [hc] at hC
    have c1 : cm .neq (errOf false) 0 = true := rfl
    have hO : outT i = [] := by unfold outT; rw [hc]; rfl
    rw [hO]
    repeat (first | refine C.seq ?_ | refine C.region ?_ | refine L.nil ?_ | refine D.seq ?_ | refine L.move (k := ?_) | refine L.assign (k := ?_) | refine L.cm (c := ?_) | refine L.loadA 0 (c := ?_) | refine L.box (c := fun _ => ?_) | refine C.yes (h1 := ?_) | refine C.ret ?_ | refine D.thenRet ?_ | refine L.callQ (hC) (k := ?_))
    exact D.ret (vs := [_, _]) (RV.tmp rfl (RV.tmp rfl RV.nil)) (fun w' hw => Post.mk (is := []) hw (by decide) rfl ⟨rfl, rfl⟩)
  | true =>
    rw [hc] at hC
    have c1 : cm .neq (errOf true) 0 = false := rfl
    have hO : outT i = instT i := by unfold outT; rw [hc]; rfl
    rw [hO, ← rcat_inst i h hc]
    obtain ⟨hx60, hx3⟩ := rl5_len i h hc
    have hF := form_L i.op
    have h68 := has_L i.op 68
    have h83 := has_L i.op 83
    have h84 := has_L i.op 84
    have h77 := has_L i.op 77
    have h105 := has_L i.op 105
    have h73 := has_L i.op 73
    have h98 := has_L i.op 98
    have hJ := rjump_S i hc
    have hN := rNameT_S i.op (chk_range hc)
    have hP := rplace_S i.mb i.mi i.ms i.md h.1 h.2.1
    have hd := rname_S i.d
    have hs := rname_S i.s
    have ht := rname_S i.t
    have hD := digits_S i.im h.2.2
    have hG := signed_S i.im h.2.2
    have e4 : cm .eql i.op 4 = decide (i.op = 4) := rfl
    have n4 : cm .neq i.op 4 = !decide (i.op = 4) := rfl
    obtain ⟨f, hf⟩ : ∃ f, f = flOf i.op := ⟨_, rfl⟩
    have f0 : f.b0 = decide (i.op = 4) := by rw [hf]; rfl
    have fD : f.bD = hasC (formB i.op) 68 := by rw [hf]; rfl
    have fS : f.bS = hasC (formB i.op) 83 := by rw [hf]; rfl
    have fT : f.bT = hasC (formB i.op) 84 := by rw [hf]; rfl
    have fM : f.bM = (hasC (formB i.op) 77 && !decide (i.op = 4)) := by rw [hf]; rfl
    have fj : f.bj = jmpB i.op := by rw [hf]; rfl
    have fn : f.bn = (hasC (formB i.op) 105 || hasC (formB i.op) 73 || hasC (formB i.op) 98) := by rw [hf]; rfl
    rw [← hf] at hx60 hx3 ⊢
    clear hf
    refine C.seq ?_
    repeat (first | refine C.region ?_ | refine L.nil ?_ | refine D.seq ?_ | refine L.assign (k := ?_) | refine L.box (c := fun _ => ?_))
    refine C.seq ?_
    repeat (first | refine C.region ?_ | refine L.nil ?_ | refine D.seq ?_ | refine L.assign (k := ?_) | refine L.loadA 0 (c := ?_) | refine L.callQ (hC) (k := ?_))
    refine C.seq ?_
    refine C.seq ?_
    repeat (first | refine C.region ?_ | refine L.nil ?_ | refine D.seq ?_ | refine L.move (k := ?_) | refine L.cm (c := ?_) | refine C.no (h1 := ?_) | refine C.skip ?_)
    refine C.seq ?_
    repeat (first | refine C.region ?_ | refine L.nil ?_ | refine D.seq ?_ | refine L.assign (k := ?_) | refine L.fieldAddr (c := ?_) | refine L.load1 0 (c := ?_) | refine L.callQ (hF) (k := ?_))
    refine C.seq ?_
    repeat (first | refine C.region ?_ | refine L.nil ?_ | refine D.seq ?_ | refine L.assign (k := ?_))
    rename_i b1
    refine C.seq ?_
    refine C.joinK (fun z : OS × List (List UInt8) => z.2 = rl0 i f ∧ osG 1 z.2.length (z.2.map tx) z.1) (fun z => [(1, .pointer (some ⟨b1, 0, none⟩)), (5, .string (formB i.op)), (6, osV z.2.length z.1)]) (fun z => (b1, ob i.cells 25) :: osC 9 z.1 []) ?_ ?_
    · have hGy : osG 1 ([] : List (List UInt8)).length (([] : List (List UInt8)).map tx) none := osG.nil
      obtain ⟨y, hy⟩ : ∃ y : OS, y = none := ⟨_, rfl⟩
      cases hq : decide (i.op = 4) with
      | true =>
        rw [hq] at e4 f0
        have hm1 : 0 + 1 ≤ maxLen := by decide
        repeat (first | refine C.seq ?_ | refine C.region ?_ | refine L.nil ?_ | refine D.seq ?_ | refine L.move (k := ?_) | refine L.cm (c := ?_) | refine L.fieldAddr (c := ?_) | refine L.load1 0 (c := ?_) | refine L.loadA 0 (c := ?_) | refine C.yes (h1 := ?_) | refine L.buildS (c := fun _ => ?_) | refine L.callQ (h68) (k := ?_) | refine L.callQ (h83) (k := ?_) | refine L.callQ (h84) (k := ?_) | refine L.callQ (h77) (k := ?_) | refine L.callQ (h105) (k := ?_) | refine L.callQ (h73) (k := ?_) | refine L.callQ (h98) (k := ?_) | refine L.callQ (hJ) (k := ?_) | refine L.callQ (hP) (k := ?_) | refine L.callQ (hd) (k := ?_) | refine L.callQ (hs) (k := ?_) | refine L.callQ (ht) (k := ?_) | refine L.callQ (hD) (k := ?_) | refine L.callQ (hG) (k := ?_))
        rename_i nb
        refine L.appendU [_, _] (L2 := []) (y := none) (m := 0) (cs := []) (u := .slice (some ⟨nb, 0, none⟩) 1 1) (k := 1) (news := [tx (placeT i.mb i.mi i.ms i.md)]) osG.nil rfl (fun w hw => Rd.own (hw.holds _ List.mem_cons_self) (by simp) (Nat.le_refl _) 1 rfl) rfl (by intro v hv; obtain rfl := List.mem_singleton.1 hv; rfl) hm1 (by omega) (c := fun y' hG' _ => ?_)
        simp only [List.cons_append, List.nil_append]
        repeat (first | refine L.nil ?_ | refine L.assign (k := ?_))
        exact D.then_ fun a1 w1 hs => ⟨(y', [placeT i.mb i.mi i.ms i.md]), ⟨by unfold rl0; rw [f0]; rfl, hG'⟩, hs.lessD 1 rfl (lk_cons rfl (lk_cons rfl (lk_cons rfl (fun _ _ h => lk_nil h))))⟩
      | false =>
        rw [hq] at e4 f0
        repeat (first | refine C.seq ?_ | refine C.region ?_ | refine L.nil ?_ | refine D.seq ?_ | refine L.cm (c := ?_) | refine L.fieldAddr (c := ?_) | refine L.load1 0 (c := ?_) | refine C.no (h1 := ?_) | refine C.skip ?_ | refine L.callQ (h68) (k := ?_) | refine L.callQ (h83) (k := ?_) | refine L.callQ (h84) (k := ?_) | refine L.callQ (h77) (k := ?_) | refine L.callQ (h105) (k := ?_) | refine L.callQ (h73) (k := ?_) | refine L.callQ (h98) (k := ?_) | refine L.callQ (hJ) (k := ?_) | refine L.callQ (hP) (k := ?_) | refine L.callQ (hd) (k := ?_) | refine L.callQ (hs) (k := ?_) | refine L.callQ (ht) (k := ?_) | refine L.callQ (hD) (k := ?_) | refine L.callQ (hG) (k := ?_))
        exact D.then_ fun a1 w1 hs => ⟨(none, []), ⟨by unfold rl0; rw [f0]; rfl, osG.nil⟩, hs.lessD 0 rfl (lk_cons rfl (lk_cons rfl (lk_cons rfl (fun _ _ h => lk_nil h))))⟩
    rintro ⟨y, l⟩ ⟨hl, hGy⟩
    simp only at hl hGy
    have hl7 : l.length ≤ 10 := by rw [hl]; unfold rl0; (try simp only [List.length_append]); repeat' split <;> simp
    refine C.seq ?_
    refine C.joinK (fun z : OS × List (List UInt8) => z.2 = rl1 i f ∧ osG 1 z.2.length (z.2.map tx) z.1) (fun z => [(1, .pointer (some ⟨b1, 0, none⟩)), (5, .string (formB i.op)), (6, osV z.2.length z.1)]) (fun z => (b1, ob i.cells 25) :: osC 9 z.1 []) ?_ ?_
    · dsimp only
      cases hq : hasC (formB i.op) 68 with
      | true =>
        rw [hq] at h68
        have fx : f.bD = true := by rw [fD, hq]
        have hla : rl1 i f = l ++ [regT i.d] := by unfold rl1; rw [← hl, fx]; rfl
        have hm1 : l.length + 1 ≤ maxLen := by unfold maxLen; omega
        repeat (first | refine C.seq ?_ | refine C.region ?_ | refine L.nil ?_ | refine D.seq ?_ | refine L.move (k := ?_) | refine L.fieldAddr (c := ?_) | refine L.load1 0 (c := ?_) | refine C.yes (h1 := ?_) | refine L.buildS (c := fun _ => ?_) | refine L.callQ (h68) (k := ?_) | refine L.callQ (h83) (k := ?_) | refine L.callQ (h84) (k := ?_) | refine L.callQ (h77) (k := ?_) | refine L.callQ (h105) (k := ?_) | refine L.callQ (h73) (k := ?_) | refine L.callQ (h98) (k := ?_) | refine L.callQ (hJ) (k := ?_) | refine L.callQ (hP) (k := ?_) | refine L.callQ (hd) (k := ?_) | refine L.callQ (hs) (k := ?_) | refine L.callQ (ht) (k := ?_) | refine L.callQ (hD) (k := ?_) | refine L.callQ (hG) (k := ?_))
        rename_i nb
        refine L.appendU [_, _] (L2 := []) (y := y) (m := l.length) (u := .slice (some ⟨nb, 0, none⟩) 1 1) (k := 1) (news := [tx (regT i.d)]) hGy rfl (fun w hw => Rd.own (hw.holds _ List.mem_cons_self) (by simp) (Nat.le_refl _) 1 rfl) rfl (by intro v hv; obtain rfl := List.mem_singleton.1 hv; rfl) hm1 (by omega) (c := fun y' hG' _ => ?_)
        simp only [List.cons_append, List.nil_append]
        repeat (first | refine L.nil ?_ | refine L.assign (k := ?_))
        exact D.then_ fun a1 w1 hs => ⟨(y', l ++ [regT i.d]), ⟨hla.symm, by simp only [List.length_append, List.length_singleton, List.map_append, List.map_cons, List.map_nil]; exact hG'⟩, by simp only [List.length_append, List.length_singleton]; exact hs.lessD 1 rfl (lk_cons rfl (lk_cons rfl (lk_cons rfl (fun _ _ h => lk_nil h))))⟩
      | false =>
        rw [hq] at h68
        have fx : f.bD = false := by rw [fD, hq]
        have hla : rl1 i f = l := by unfold rl1; rw [← hl, fx]; simp
        repeat (first | refine C.seq ?_ | refine C.region ?_ | refine L.nil ?_ | refine D.seq ?_ | refine L.move (k := ?_) | refine C.no (h1 := ?_) | refine C.skip ?_ | refine L.callQ (h68) (k := ?_) | refine L.callQ (h83) (k := ?_) | refine L.callQ (h84) (k := ?_) | refine L.callQ (h77) (k := ?_) | refine L.callQ (h105) (k := ?_) | refine L.callQ (h73) (k := ?_) | refine L.callQ (h98) (k := ?_) | refine L.callQ (hJ) (k := ?_) | refine L.callQ (hP) (k := ?_) | refine L.callQ (hd) (k := ?_) | refine L.callQ (hs) (k := ?_) | refine L.callQ (ht) (k := ?_) | refine L.callQ (hD) (k := ?_) | refine L.callQ (hG) (k := ?_))
        exact D.then_ fun a1 w1 hs => ⟨(y, l), ⟨hla.symm, hGy⟩, hs.lessD 0 rfl (lk_cons rfl (lk_cons rfl (lk_cons rfl (fun _ _ h => lk_nil h))))⟩
    rintro ⟨y, l⟩ ⟨hl, hGy⟩
    simp only at hl hGy
    have hl7 : l.length ≤ 10 := by rw [hl]; unfold rl1 rl0; (try simp only [List.length_append]); repeat' split <;> simp
    refine C.seq ?_
    refine C.joinK (fun z : OS × List (List UInt8) => z.2 = rl2 i f ∧ osG 1 z.2.length (z.2.map tx) z.1) (fun z => [(1, .pointer (some ⟨b1, 0, none⟩)), (5, .string (formB i.op)), (6, osV z.2.length z.1)]) (fun z => (b1, ob i.cells 25) :: osC 9 z.1 []) ?_ ?_
    · dsimp only
      cases hq : hasC (formB i.op) 83 with
      | true =>
        rw [hq] at h83
        have fx : f.bS = true := by rw [fS, hq]
        have hla : rl2 i f = l ++ [regT i.s] := by unfold rl2; rw [← hl, fx]; rfl
        have hm1 : l.length + 1 ≤ maxLen := by unfold maxLen; omega
        repeat (first | refine C.seq ?_ | refine C.region ?_ | refine L.nil ?_ | refine D.seq ?_ | refine L.move (k := ?_) | refine L.fieldAddr (c := ?_) | refine L.load1 0 (c := ?_) | refine C.yes (h1 := ?_) | refine L.buildS (c := fun _ => ?_) | refine L.callQ (h68) (k := ?_) | refine L.callQ (h83) (k := ?_) | refine L.callQ (h84) (k := ?_) | refine L.callQ (h77) (k := ?_) | refine L.callQ (h105) (k := ?_) | refine L.callQ (h73) (k := ?_) | refine L.callQ (h98) (k := ?_) | refine L.callQ (hJ) (k := ?_) | refine L.callQ (hP) (k := ?_) | refine L.callQ (hd) (k := ?_) | refine L.callQ (hs) (k := ?_) | refine L.callQ (ht) (k := ?_) | refine L.callQ (hD) (k := ?_) | refine L.callQ (hG) (k := ?_))
        rename_i nb
        refine L.appendU [_, _] (L2 := []) (y := y) (m := l.length) (u := .slice (some ⟨nb, 0, none⟩) 1 1) (k := 1) (news := [tx (regT i.s)]) hGy rfl (fun w hw => Rd.own (hw.holds _ List.mem_cons_self) (by simp) (Nat.le_refl _) 1 rfl) rfl (by intro v hv; obtain rfl := List.mem_singleton.1 hv; rfl) hm1 (by omega) (c := fun y' hG' _ => ?_)
        simp only [List.cons_append, List.nil_append]
        repeat (first | refine L.nil ?_ | refine L.assign (k := ?_))
        exact D.then_ fun a1 w1 hs => ⟨(y', l ++ [regT i.s]), ⟨hla.symm, by simp only [List.length_append, List.length_singleton, List.map_append, List.map_cons, List.map_nil]; exact hG'⟩, by simp only [List.length_append, List.length_singleton]; exact hs.lessD 1 rfl (lk_cons rfl (lk_cons rfl (lk_cons rfl (fun _ _ h => lk_nil h))))⟩
      | false =>
        rw [hq] at h83
        have fx : f.bS = false := by rw [fS, hq]
        have hla : rl2 i f = l := by unfold rl2; rw [← hl, fx]; simp
        repeat (first | refine C.seq ?_ | refine C.region ?_ | refine L.nil ?_ | refine D.seq ?_ | refine L.move (k := ?_) | refine C.no (h1 := ?_) | refine C.skip ?_ | refine L.callQ (h68) (k := ?_) | refine L.callQ (h83) (k := ?_) | refine L.callQ (h84) (k := ?_) | refine L.callQ (h77) (k := ?_) | refine L.callQ (h105) (k := ?_) | refine L.callQ (h73) (k := ?_) | refine L.callQ (h98) (k := ?_) | refine L.callQ (hJ) (k := ?_) | refine L.callQ (hP) (k := ?_) | refine L.callQ (hd) (k := ?_) | refine L.callQ (hs) (k := ?_) | refine L.callQ (ht) (k := ?_) | refine L.callQ (hD) (k := ?_) | refine L.callQ (hG) (k := ?_))
        exact D.then_ fun a1 w1 hs => ⟨(y, l), ⟨hla.symm, hGy⟩, hs.lessD 0 rfl (lk_cons rfl (lk_cons rfl (lk_cons rfl (fun _ _ h => lk_nil h))))⟩
    rintro ⟨y, l⟩ ⟨hl, hGy⟩
    simp only at hl hGy
    have hl7 : l.length ≤ 10 := by rw [hl]; unfold rl2 rl1 rl0; (try simp only [List.length_append]); repeat' split <;> simp
    refine C.seq ?_
    refine C.joinK (fun z : OS × List (List UInt8) => z.2 = rl3 i f ∧ osG 1 z.2.length (z.2.map tx) z.1) (fun z => [(1, .pointer (some ⟨b1, 0, none⟩)), (5, .string (formB i.op)), (6, osV z.2.length z.1)]) (fun z => (b1, ob i.cells 25) :: osC 9 z.1 []) ?_ ?_
    · dsimp only
      cases hq : hasC (formB i.op) 84 with
      | true =>
        rw [hq] at h84
        have fx : f.bT = true := by rw [fT, hq]
        have hla : rl3 i f = l ++ [regT i.t] := by unfold rl3; rw [← hl, fx]; rfl
        have hm1 : l.length + 1 ≤ maxLen := by unfold maxLen; omega
        repeat (first | refine C.seq ?_ | refine C.region ?_ | refine L.nil ?_ | refine D.seq ?_ | refine L.move (k := ?_) | refine L.fieldAddr (c := ?_) | refine L.load1 0 (c := ?_) | refine C.yes (h1 := ?_) | refine L.buildS (c := fun _ => ?_) | refine L.callQ (h68) (k := ?_) | refine L.callQ (h83) (k := ?_) | refine L.callQ (h84) (k := ?_) | refine L.callQ (h77) (k := ?_) | refine L.callQ (h105) (k := ?_) | refine L.callQ (h73) (k := ?_) | refine L.callQ (h98) (k := ?_) | refine L.callQ (hJ) (k := ?_) | refine L.callQ (hP) (k := ?_) | refine L.callQ (hd) (k := ?_) | refine L.callQ (hs) (k := ?_) | refine L.callQ (ht) (k := ?_) | refine L.callQ (hD) (k := ?_) | refine L.callQ (hG) (k := ?_))
        rename_i nb
        refine L.appendU [_, _] (L2 := []) (y := y) (m := l.length) (u := .slice (some ⟨nb, 0, none⟩) 1 1) (k := 1) (news := [tx (regT i.t)]) hGy rfl (fun w hw => Rd.own (hw.holds _ List.mem_cons_self) (by simp) (Nat.le_refl _) 1 rfl) rfl (by intro v hv; obtain rfl := List.mem_singleton.1 hv; rfl) hm1 (by omega) (c := fun y' hG' _ => ?_)
        simp only [List.cons_append, List.nil_append]
        repeat (first | refine L.nil ?_ | refine L.assign (k := ?_))
        exact D.then_ fun a1 w1 hs => ⟨(y', l ++ [regT i.t]), ⟨hla.symm, by simp only [List.length_append, List.length_singleton, List.map_append, List.map_cons, List.map_nil]; exact hG'⟩, by simp only [List.length_append, List.length_singleton]; exact hs.lessD 1 rfl (lk_cons rfl (lk_cons rfl (lk_cons rfl (fun _ _ h => lk_nil h))))⟩
      | false =>
        rw [hq] at h84
        have fx : f.bT = false := by rw [fT, hq]
        have hla : rl3 i f = l := by unfold rl3; rw [← hl, fx]; simp
        repeat (first | refine C.seq ?_ | refine C.region ?_ | refine L.nil ?_ | refine D.seq ?_ | refine L.move (k := ?_) | refine C.no (h1 := ?_) | refine C.skip ?_ | refine L.callQ (h68) (k := ?_) | refine L.callQ (h83) (k := ?_) | refine L.callQ (h84) (k := ?_) | refine L.callQ (h77) (k := ?_) | refine L.callQ (h105) (k := ?_) | refine L.callQ (h73) (k := ?_) | refine L.callQ (h98) (k := ?_) | refine L.callQ (hJ) (k := ?_) | refine L.callQ (hP) (k := ?_) | refine L.callQ (hd) (k := ?_) | refine L.callQ (hs) (k := ?_) | refine L.callQ (ht) (k := ?_) | refine L.callQ (hD) (k := ?_) | refine L.callQ (hG) (k := ?_))
        exact D.then_ fun a1 w1 hs => ⟨(y, l), ⟨hla.symm, hGy⟩, hs.lessD 0 rfl (lk_cons rfl (lk_cons rfl (lk_cons rfl (fun _ _ h => lk_nil h))))⟩
    rintro ⟨y, l⟩ ⟨hl, hGy⟩
    simp only at hl hGy
    have hl7 : l.length ≤ 10 := by rw [hl]; unfold rl3 rl2 rl1 rl0; (try simp only [List.length_append]); repeat' split <;> simp
    refine C.seq ?_
    refine C.joinK (fun z : OS × List (List UInt8) => z.2 = rl4 i f ∧ osG 1 z.2.length (z.2.map tx) z.1) (fun z => [(1, .pointer (some ⟨b1, 0, none⟩)), (5, .string (formB i.op)), (6, osV z.2.length z.1)]) (fun z => (b1, ob i.cells 25) :: osC 9 z.1 []) ?_ ?_
    · dsimp only
      cases hq : hasC (formB i.op) 77 with
      | true =>
        rw [hq] at h77 fM
        cases hq2 : decide (i.op = 4) with
        | true =>
          rw [hq2] at n4 fM
          have fx : f.bM = false := fM
          have hla : rl4 i f = l := by unfold rl4; rw [← hl, fx]; simp
          repeat (first | refine C.seq ?_ | refine C.region ?_ | refine L.nil ?_ | refine D.seq ?_ | refine L.move (k := ?_) | refine L.cm (c := ?_) | refine L.fieldAddr (c := ?_) | refine L.load1 0 (c := ?_) | refine C.no (h1 := ?_) | refine L.pickT (k := ?_) | refine L.want (k := ?_) | refine C.skip ?_ | refine L.callQ (h68) (k := ?_) | refine L.callQ (h83) (k := ?_) | refine L.callQ (h84) (k := ?_) | refine L.callQ (h77) (k := ?_) | refine L.callQ (h105) (k := ?_) | refine L.callQ (h73) (k := ?_) | refine L.callQ (h98) (k := ?_) | refine L.callQ (hJ) (k := ?_) | refine L.callQ (hP) (k := ?_) | refine L.callQ (hd) (k := ?_) | refine L.callQ (hs) (k := ?_) | refine L.callQ (ht) (k := ?_) | refine L.callQ (hD) (k := ?_) | refine L.callQ (hG) (k := ?_))
          exact D.then_ fun a1 w1 hs => ⟨(y, l), ⟨hla.symm, hGy⟩, hs.lessD 0 rfl (lk_cons rfl (lk_cons rfl (lk_cons rfl (fun _ _ h => lk_nil h))))⟩
        | false =>
          rw [hq2] at n4 fM
          have fx : f.bM = true := fM
          have hla : rl4 i f = l ++ [placeT i.mb i.mi i.ms i.md] := by unfold rl4; rw [← hl, fx]; rfl
          have hm1 : l.length + 1 ≤ maxLen := by unfold maxLen; omega
          repeat (first | refine C.seq ?_ | refine C.region ?_ | refine L.nil ?_ | refine D.seq ?_ | refine L.move (k := ?_) | refine L.cm (c := ?_) | refine L.fieldAddr (c := ?_) | refine L.load1 0 (c := ?_) | refine L.loadA 0 (c := ?_) | refine C.yes (h1 := ?_) | refine L.pickT (k := ?_) | refine L.want (k := ?_) | refine L.buildS (c := fun _ => ?_) | refine L.callQ (h68) (k := ?_) | refine L.callQ (h83) (k := ?_) | refine L.callQ (h84) (k := ?_) | refine L.callQ (h77) (k := ?_) | refine L.callQ (h105) (k := ?_) | refine L.callQ (h73) (k := ?_) | refine L.callQ (h98) (k := ?_) | refine L.callQ (hJ) (k := ?_) | refine L.callQ (hP) (k := ?_) | refine L.callQ (hd) (k := ?_) | refine L.callQ (hs) (k := ?_) | refine L.callQ (ht) (k := ?_) | refine L.callQ (hD) (k := ?_) | refine L.callQ (hG) (k := ?_))
          rename_i nb
          refine L.appendU [_, _] (L2 := []) (y := y) (m := l.length) (u := .slice (some ⟨nb, 0, none⟩) 1 1) (k := 1) (news := [tx (placeT i.mb i.mi i.ms i.md)]) hGy rfl (fun w hw => Rd.own (hw.holds _ List.mem_cons_self) (by simp) (Nat.le_refl _) 1 rfl) rfl (by intro v hv; obtain rfl := List.mem_singleton.1 hv; rfl) hm1 (by omega) (c := fun y' hG' _ => ?_)
          simp only [List.cons_append, List.nil_append]
          repeat (first | refine L.nil ?_ | refine L.assign (k := ?_))
          exact D.then_ fun a1 w1 hs => ⟨(y', l ++ [placeT i.mb i.mi i.ms i.md]), ⟨hla.symm, by simp only [List.length_append, List.length_singleton, List.map_append, List.map_cons, List.map_nil]; exact hG'⟩, by simp only [List.length_append, List.length_singleton]; exact hs.lessD 1 rfl (lk_cons rfl (lk_cons rfl (lk_cons rfl (fun _ _ h => lk_nil h))))⟩
      | false =>
        rw [hq] at h77 fM
        have fx : f.bM = false := fM
        have hla : rl4 i f = l := by unfold rl4; rw [← hl, fx]; simp
        repeat (first | refine C.seq ?_ | refine C.region ?_ | refine L.nil ?_ | refine D.seq ?_ | refine L.move (k := ?_) | refine C.no (h1 := ?_) | refine L.pickF (k := ?_) | refine L.pass (k := ?_) | refine C.skip ?_ | refine L.callQ (h68) (k := ?_) | refine L.callQ (h83) (k := ?_) | refine L.callQ (h84) (k := ?_) | refine L.callQ (h77) (k := ?_) | refine L.callQ (h105) (k := ?_) | refine L.callQ (h73) (k := ?_) | refine L.callQ (h98) (k := ?_) | refine L.callQ (hJ) (k := ?_) | refine L.callQ (hP) (k := ?_) | refine L.callQ (hd) (k := ?_) | refine L.callQ (hs) (k := ?_) | refine L.callQ (ht) (k := ?_) | refine L.callQ (hD) (k := ?_) | refine L.callQ (hG) (k := ?_))
        exact D.then_ fun a1 w1 hs => ⟨(y, l), ⟨hla.symm, hGy⟩, hs.lessD 0 rfl (lk_cons rfl (lk_cons rfl (lk_cons rfl (fun _ _ h => lk_nil h))))⟩
    rintro ⟨y, l⟩ ⟨hl, hGy⟩
    simp only at hl hGy
    have hl7 : l.length ≤ 10 := by rw [hl]; unfold rl4 rl3 rl2 rl1 rl0; (try simp only [List.length_append]); repeat' split <;> simp
    refine C.seq ?_
    refine C.joinK (fun z : OS × List (List UInt8) => z.2 = rl5 i f ∧ osG 1 z.2.length (z.2.map tx) z.1) (fun z => [(1, .pointer (some ⟨b1, 0, none⟩)), (5, .string (formB i.op)), (6, osV z.2.length z.1)]) (fun z => (b1, ob i.cells 25) :: osC 9 z.1 []) ?_ ?_
    · dsimp only
      cases hq : jmpB i.op with
      | true =>
        rw [hq] at hJ
        have fx : f.bj = true := by rw [fj, hq]
        have hla : rl5 i f = l ++ [distT i.im] := by unfold rl5; rw [← hl, fx]; rfl
        have hm1 : l.length + 1 ≤ maxLen := by unfold maxLen; omega
        repeat (first | refine C.seq ?_ | refine C.region ?_ | refine L.nil ?_ | refine D.seq ?_ | refine L.move (k := ?_) | refine L.assign (k := ?_) | refine L.fieldAddr (c := ?_) | refine L.load1 0 (c := ?_) | refine L.loadA 0 (c := ?_) | refine C.yes (h1 := ?_) | refine C.block ?_ | refine L.buildS (c := fun _ => ?_) | refine L.callQ (h68) (k := ?_) | refine L.callQ (h83) (k := ?_) | refine L.callQ (h84) (k := ?_) | refine L.callQ (h77) (k := ?_) | refine L.callQ (h105) (k := ?_) | refine L.callQ (h73) (k := ?_) | refine L.callQ (h98) (k := ?_) | refine L.callQ (hJ) (k := ?_) | refine L.callQ (hP) (k := ?_) | refine L.callQ (hd) (k := ?_) | refine L.callQ (hs) (k := ?_) | refine L.callQ (ht) (k := ?_) | refine L.callQ (hD) (k := ?_) | refine L.callQ (hG) (k := ?_))
        rename_i nb
        refine L.appendU [_, _] (L2 := []) (y := y) (m := l.length) (u := .slice (some ⟨nb, 0, none⟩) 1 1) (k := 1) (news := [tx (distT i.im)]) hGy rfl (fun w hw => Rd.own (hw.holds _ List.mem_cons_self) (by simp) (Nat.le_refl _) 1 rfl) rfl (by intro v hv; obtain rfl := List.mem_singleton.1 hv; rfl) hm1 (by omega) (c := fun y' hG' _ => ?_)
        simp only [List.cons_append, List.nil_append]
        repeat (first | refine L.nil ?_ | refine L.assign (k := ?_) | refine D.blkNormal ?_)
        exact D.then_ fun a1 w1 hs => ⟨(y', l ++ [distT i.im]), ⟨hla.symm, by simp only [List.length_append, List.length_singleton, List.map_append, List.map_cons, List.map_nil]; exact hG'⟩, by simp only [List.length_append, List.length_singleton]; exact hs.lessD 1 rfl (lk_cons rfl (lk_cons rfl (lk_cons rfl (fun _ _ h => lk_nil h))))⟩
      | false =>
        rw [hq] at hJ
        have fx0 : f.bj = false := by rw [fj, hq]
        cases k1 : hasC (formB i.op) 105 with
        | true =>
          rw [k1] at h105 fn
          have fx : f.bn = true := by rw [fn]; rfl
          have hla : rl5 i f = l ++ [Lib.itoa i.im] := by unfold rl5; rw [← hl, fx0, fx]; rfl
          have hm1 : l.length + 1 ≤ maxLen := by unfold maxLen; omega
          repeat (first | refine C.seq ?_ | refine C.region ?_ | refine L.nil ?_ | refine D.seq ?_ | refine L.move (k := ?_) | refine L.assign (k := ?_) | refine L.fieldAddr (c := ?_) | refine L.load1 0 (c := ?_) | refine L.loadA 0 (c := ?_) | refine C.yes (h1 := ?_) | refine C.no (h1 := ?_) | refine L.pickT (k := ?_) | refine L.pass (k := ?_) | refine C.block ?_ | refine L.buildS (c := fun _ => ?_) | refine L.callQ (h68) (k := ?_) | refine L.callQ (h83) (k := ?_) | refine L.callQ (h84) (k := ?_) | refine L.callQ (h77) (k := ?_) | refine L.callQ (h105) (k := ?_) | refine L.callQ (h73) (k := ?_) | refine L.callQ (h98) (k := ?_) | refine L.callQ (hJ) (k := ?_) | refine L.callQ (hP) (k := ?_) | refine L.callQ (hd) (k := ?_) | refine L.callQ (hs) (k := ?_) | refine L.callQ (ht) (k := ?_) | refine L.callQ (hD) (k := ?_) | refine L.callQ (hG) (k := ?_))
          rename_i nb
          refine L.appendU [_, _] (L2 := []) (y := y) (m := l.length) (u := .slice (some ⟨nb, 0, none⟩) 1 1) (k := 1) (news := [tx (Lib.itoa i.im)]) hGy rfl (fun w hw => Rd.own (hw.holds _ List.mem_cons_self) (by simp) (Nat.le_refl _) 1 rfl) rfl (by intro v hv; obtain rfl := List.mem_singleton.1 hv; rfl) hm1 (by omega) (c := fun y' hG' _ => ?_)
          simp only [List.cons_append, List.nil_append]
          repeat (first | refine L.nil ?_ | refine L.assign (k := ?_) | refine D.blkNormal ?_)
          exact D.then_ fun a1 w1 hs => ⟨(y', l ++ [Lib.itoa i.im]), ⟨hla.symm, by simp only [List.length_append, List.length_singleton, List.map_append, List.map_cons, List.map_nil]; exact hG'⟩, by simp only [List.length_append, List.length_singleton]; exact hs.lessD 1 rfl (lk_cons rfl (lk_cons rfl (lk_cons rfl (fun _ _ h => lk_nil h))))⟩
        | false =>
          rw [k1] at h105 fn
          cases k2 : hasC (formB i.op) 73 with
          | true =>
            rw [k2] at h73 fn
            have fx : f.bn = true := by rw [fn]; rfl
            have hla : rl5 i f = l ++ [Lib.itoa i.im] := by unfold rl5; rw [← hl, fx0, fx]; rfl
            have hm1 : l.length + 1 ≤ maxLen := by unfold maxLen; omega
            repeat (first | refine C.seq ?_ | refine C.region ?_ | refine L.nil ?_ | refine D.seq ?_ | refine L.move (k := ?_) | refine L.assign (k := ?_) | refine L.fieldAddr (c := ?_) | refine L.load1 0 (c := ?_) | refine L.loadA 0 (c := ?_) | refine C.yes (h1 := ?_) | refine C.no (h1 := ?_) | refine L.pickT (k := ?_) | refine L.pickF (k := ?_) | refine L.want (k := ?_) | refine L.pass (k := ?_) | refine C.block ?_ | refine L.buildS (c := fun _ => ?_) | refine L.callQ (h68) (k := ?_) | refine L.callQ (h83) (k := ?_) | refine L.callQ (h84) (k := ?_) | refine L.callQ (h77) (k := ?_) | refine L.callQ (h105) (k := ?_) | refine L.callQ (h73) (k := ?_) | refine L.callQ (h98) (k := ?_) | refine L.callQ (hJ) (k := ?_) | refine L.callQ (hP) (k := ?_) | refine L.callQ (hd) (k := ?_) | refine L.callQ (hs) (k := ?_) | refine L.callQ (ht) (k := ?_) | refine L.callQ (hD) (k := ?_) | refine L.callQ (hG) (k := ?_))
            rename_i nb
            refine L.appendU [_, _] (L2 := []) (y := y) (m := l.length) (u := .slice (some ⟨nb, 0, none⟩) 1 1) (k := 1) (news := [tx (Lib.itoa i.im)]) hGy rfl (fun w hw => Rd.own (hw.holds _ List.mem_cons_self) (by simp) (Nat.le_refl _) 1 rfl) rfl (by intro v hv; obtain rfl := List.mem_singleton.1 hv; rfl) hm1 (by omega) (c := fun y' hG' _ => ?_)
            simp only [List.cons_append, List.nil_append]
            repeat (first | refine L.nil ?_ | refine L.assign (k := ?_) | refine D.blkNormal ?_)
            exact D.then_ fun a1 w1 hs => ⟨(y', l ++ [Lib.itoa i.im]), ⟨hla.symm, by simp only [List.length_append, List.length_singleton, List.map_append, List.map_cons, List.map_nil]; exact hG'⟩, by simp only [List.length_append, List.length_singleton]; exact hs.lessD 1 rfl (lk_cons rfl (lk_cons rfl (lk_cons rfl (fun _ _ h => lk_nil h))))⟩
          | false =>
            rw [k2] at h73 fn
            cases k3 : hasC (formB i.op) 98 with
            | true =>
              rw [k3] at h98 fn
              have fx : f.bn = true := by rw [fn]; rfl
              have hla : rl5 i f = l ++ [Lib.itoa i.im] := by unfold rl5; rw [← hl, fx0, fx]; rfl
              have hm1 : l.length + 1 ≤ maxLen := by unfold maxLen; omega
              repeat (first | refine C.seq ?_ | refine C.region ?_ | refine L.nil ?_ | refine D.seq ?_ | refine L.move (k := ?_) | refine L.assign (k := ?_) | refine L.fieldAddr (c := ?_) | refine L.load1 0 (c := ?_) | refine L.loadA 0 (c := ?_) | refine C.yes (h1 := ?_) | refine C.no (h1 := ?_) | refine L.pickF (k := ?_) | refine L.want (k := ?_) | refine C.block ?_ | refine L.buildS (c := fun _ => ?_) | refine L.callQ (h68) (k := ?_) | refine L.callQ (h83) (k := ?_) | refine L.callQ (h84) (k := ?_) | refine L.callQ (h77) (k := ?_) | refine L.callQ (h105) (k := ?_) | refine L.callQ (h73) (k := ?_) | refine L.callQ (h98) (k := ?_) | refine L.callQ (hJ) (k := ?_) | refine L.callQ (hP) (k := ?_) | refine L.callQ (hd) (k := ?_) | refine L.callQ (hs) (k := ?_) | refine L.callQ (ht) (k := ?_) | refine L.callQ (hD) (k := ?_) | refine L.callQ (hG) (k := ?_))
              rename_i nb
              refine L.appendU [_, _] (L2 := []) (y := y) (m := l.length) (u := .slice (some ⟨nb, 0, none⟩) 1 1) (k := 1) (news := [tx (Lib.itoa i.im)]) hGy rfl (fun w hw => Rd.own (hw.holds _ List.mem_cons_self) (by simp) (Nat.le_refl _) 1 rfl) rfl (by intro v hv; obtain rfl := List.mem_singleton.1 hv; rfl) hm1 (by omega) (c := fun y' hG' _ => ?_)
              simp only [List.cons_append, List.nil_append]
              repeat (first | refine L.nil ?_ | refine L.assign (k := ?_) | refine D.blkNormal ?_)
              exact D.then_ fun a1 w1 hs => ⟨(y', l ++ [Lib.itoa i.im]), ⟨hla.symm, by simp only [List.length_append, List.length_singleton, List.map_append, List.map_cons, List.map_nil]; exact hG'⟩, by simp only [List.length_append, List.length_singleton]; exact hs.lessD 1 rfl (lk_cons rfl (lk_cons rfl (lk_cons rfl (fun _ _ h => lk_nil h))))⟩
            | false =>
              rw [k3] at h98 fn
              have fx : f.bn = false := by rw [fn]; rfl
              have hla : rl5 i f = l := by unfold rl5; rw [← hl, fx0, fx]; simp
              repeat (first | refine C.seq ?_ | refine C.region ?_ | refine L.nil ?_ | refine D.seq ?_ | refine L.move (k := ?_) | refine L.assign (k := ?_) | refine L.loadA 0 (c := ?_) | refine C.no (h1 := ?_) | refine L.pickF (k := ?_) | refine L.want (k := ?_) | refine C.block ?_ | refine D.blkNormal ?_ | refine C.skip ?_ | refine L.callQ (h68) (k := ?_) | refine L.callQ (h83) (k := ?_) | refine L.callQ (h84) (k := ?_) | refine L.callQ (h77) (k := ?_) | refine L.callQ (h105) (k := ?_) | refine L.callQ (h73) (k := ?_) | refine L.callQ (h98) (k := ?_) | refine L.callQ (hJ) (k := ?_) | refine L.callQ (hP) (k := ?_) | refine L.callQ (hd) (k := ?_) | refine L.callQ (hs) (k := ?_) | refine L.callQ (ht) (k := ?_) | refine L.callQ (hD) (k := ?_) | refine L.callQ (hG) (k := ?_))
              exact D.then_ fun a1 w1 hs => ⟨(y, l), ⟨hla.symm, hGy⟩, hs.lessD 0 rfl (lk_cons rfl (lk_cons rfl (lk_cons rfl (fun _ _ h => lk_nil h))))⟩
    rintro ⟨y, l⟩ ⟨hl, hGy⟩
    simp only at hl hGy
    rw [← hl] at hx60 hx3 ⊢
    clear hl
    dsimp only
    refine C.base ((b1, ob i.cells 25) :: osC 9 y []) (M' := []) (List.append_nil _).symm (fun w1 h1 => ?_)
    have r1 : Rd w1 [] (osV l.length y) l.length (l.map tx) := hGy.rdm (T := 9) h1 (fun x hx => List.mem_cons_of_mem _ hx)
    have h1' : At w [] (((b1, ob i.cells 25) :: osC 9 y []) ++ []) w1 := by rw [List.append_nil]; exact h1
    have oB : Old w1 [] b1 0 i.cells := Old.own (h1.holds _ List.mem_cons_self) (by simp) i.cells.length (by simp)
    have g0 : i.cells[0]? = some (.int .i64 i.op) := rfl
    generalize osV l.length y = v1 at *
    have sv := r1.1
    have hnl := nameT_len i.op
    repeat (first | refine C.seq ?_ | refine C.region ?_ | refine L.nil ?_ | refine D.seq ?_ | refine L.assign (k := ?_) | refine L.fieldAddr (c := ?_) | refine C.block ?_ | refine L.loadF oB g0 (ho := rfl) (c := ?_) | refine L.callQ (hN) (k := ?_))
    refine C.loop (α := Nat) (fun k => k ≤ l.length) (fun k => [(6, v1), (7, tx (rcat (nameT i.op) (l.take k))), (8, .int .i64 (k : Int))]) (fun _ => []) (fun k => l.length - k) 0
      (fun a w hs => hs.lessE rfl (lk_cons rfl (lk_cons rfl (lk_cons rfl (fun _ _ h => lk_nil h))))) (Nat.zero_le _) ?_
    intro k hk
    dsimp only
    have hrl := rcat_len (nameT i.op) (l.take k) (fun x hx => hx60 x (List.mem_of_mem_take hx))
    rw [List.length_take, Nat.min_eq_left hk] at hrl
    rcases Nat.lt_or_ge k l.length with hlt | hge
    · have c2 : cm .lss (k : Int) (l.length : Int) = true := cm_lo (by omega)
      have d1 : ar .add .i64 (k : Int) 1 = ((k + 1 : Nat) : Int) := i64_add (b := 1) (by omega)
      obtain ⟨x, hx⟩ : ∃ x, l[k]? = some x := ⟨_, List.getElem?_eq_getElem hlt⟩
      have hv : (l.map tx)[k]? = some (tx x) := by rw [List.getElem?_map, hx]; rfl
      have hxl := hx60 x (List.mem_of_getElem? hx)
      have o1 := r1.2 (by omega)
      have hst := rcat_step (nameT i.op) l k x hx
      generalize rcat (nameT i.op) (l.take k) = acc at *
      by_cases h0 : k = 0
      · have c3 : cm .eql (k : Int) 0 = true := cm_yes (by omega)
        rw [if_pos h0] at hst
        have q1 : acc.length + ([32] : List UInt8).length ≤ 1000000000 := by simp only [List.length_cons, List.length_nil]; omega
        repeat (first | refine C.seq ?_ | refine C.region ?_ | refine L.nil ?_ | refine D.seq ?_ | refine L.move (k := ?_) | refine L.assign (k := ?_) | refine L.cm (c := ?_) | refine L.ar (c := ?_) | refine C.yes (h1 := ?_) | refine C.block ?_ | refine D.blkNormal ?_ | refine C.skip ?_ | refine L.lenR sv (c := ?_) | refine L.indexR sv hlt (c := ?_) | refine L.loadF o1 hv (ho := by simp) (c := ?_) | refine L.txAdd (h := q1) (c := ?_) | refine L.txAdd (c := ?_))
        exact D.then_ fun a1 w1 hs => ⟨k + 1, hlt, by omega, by rw [hst]; exact hs.lessE rfl (lk_cons rfl (lk_cons rfl (lk_cons rfl (fun _ _ h => lk_nil h))))⟩
      · have c3 : cm .eql (k : Int) 0 = false := cm_no (by omega)
        rw [if_neg h0] at hst
        have q1 : acc.length + ([44, 32] : List UInt8).length ≤ 1000000000 := by simp only [List.length_cons, List.length_nil]; omega
        repeat (first | refine C.seq ?_ | refine C.region ?_ | refine L.nil ?_ | refine D.seq ?_ | refine L.move (k := ?_) | refine L.assign (k := ?_) | refine L.cm (c := ?_) | refine L.ar (c := ?_) | refine C.yes (h1 := ?_) | refine C.no (h1 := ?_) | refine C.block ?_ | refine D.blkNormal ?_ | refine C.skip ?_ | refine L.lenR sv (c := ?_) | refine L.indexR sv hlt (c := ?_) | refine L.loadF o1 hv (ho := by simp) (c := ?_) | refine L.txAdd (h := q1) (c := ?_) | refine L.txAdd (c := ?_))
        exact D.then_ fun a1 w1 hs => ⟨k + 1, hlt, by omega, by rw [hst]; exact hs.lessE rfl (lk_cons rfl (lk_cons rfl (lk_cons rfl (fun _ _ h => lk_nil h))))⟩
    · have c2 : cm .lss (k : Int) (l.length : Int) = false := cm_lo' (by omega)
      obtain rfl : k = l.length := by omega
      rw [List.take_length]
      repeat (first | refine C.seq ?_ | refine C.region ?_ | refine L.nil ?_ | refine D.seq ?_ | refine L.move (k := ?_) | refine L.assign (k := ?_) | refine L.cm (c := ?_) | refine C.no (h1 := ?_) | refine C.ret ?_ | refine C.exit ?_ | refine D.thenExit ?_ | refine D.blkExit ?_ | refine D.seqR (h := ?_) | refine L.lenR sv (c := ?_))
      exact D.ret (vs := [_, _]) (RV.tmp rfl (RV.tmp rfl RV.nil)) (fun w' hw => Post.mk (is := []) (At.back h1' hw) (by decide) rfl ⟨rfl, rfl⟩)
end Go.Proofs.YtokcamgipnaoeaaGreatDoor.Ls
