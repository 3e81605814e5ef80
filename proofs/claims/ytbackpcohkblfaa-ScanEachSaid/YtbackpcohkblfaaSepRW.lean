/- The separation logic's rule for a range over a function whose iterator owns memory. No program in sight. -/
import Derived.Test.YtbackpcohkblfaaSep
set_option linter.unusedVariables false
set_option linter.unusedSimpArgs false
namespace Go.Proofs.Ytbackpcohkblfaa.SL
open Go Go.RowKit

/-- What a body leaves alone: what lay ahead of the loop and is not the body's; the iterator's blocks K. -/
def KprK (w : World) (A K : List Nat) (W W' : World) : Prop := (∀ k, k < w.heap.size → k ∉ A → W'.heap[k]? = W.heap[k]?) ∧ ∀ k ∈ K, W'.heap[k]? = W.heap[k]?
/-- The caller's word abides what the iterator does to its own blocks K, and what it makes. -/
def Abd (I : List Nat → World → Prop) : Prop := ∀ K K' W W', I K W → Keeps K W W' → (∀ k ∈ K', (k ∈ K ∨ W.heap.size ≤ k) ∧ k < W'.heap.size) → I K' W'
def SeqW {α : Type} (P : Program) (g : Nat) (lb : Array Value) (encs : α → Array Value) (Bk : List Nat) (V : List α → α → Prop) (S Sp : List α → Prop) (w : World) : Prop :=
  ∀ (l : Nat) (J Jx : List α → List Nat → World → Prop) (W : World), Below w.heap.size w W → (∀ pre, Abd (J pre)) → (∀ pre, Abd (Jx pre)) →
    (∀ pre K x W1, J pre K W1 → V pre x → YieldAt Fence.wide 3 P l (encs x) W1 fun e W' =>
      ((e = .returned (.bool true) ∧ J (pre ++ [x]) K W') ∨ (e = .returned (.bool false) ∧ Jx (pre ++ [x]) K W')) ∧ KprK w Bk K W1 W') →
    J [] [] W →
    CallsIn Fence.wide 4 P g (#[.func (.yield l) #[] #[]] ++ lb) W fun e W' => (∃ v, e = .returned v) ∧ ((∃ xs K, S xs ∧ J xs K W') ∨ (∃ pre K, Sp pre ∧ Jx pre K W'))
theorem abd_key {w A B : World} {Bk K K' : List Nat} {M' : Hp} (hA : At w Bk M' A) (hd : ∀ k ∈ K, k ∉ keys M') (hl : w.heap.size + 1 < A.heap.size) (hK : ∀ k ∈ K, w.heap.size + 2 ≤ k ∧ k < A.heap.size) (hg : Keeps K A B) (hK' : ∀ k ∈ K', (k ∈ K ∨ A.heap.size ≤ k) ∧ k < B.heap.size) :
    At w Bk M' B ∧ (∀ k ∈ K', k ∉ keys M') ∧ (∀ k, k < w.heap.size + 2 → B.heap[k]? = A.heap[k]?) ∧ (∀ k ∈ K', w.heap.size + 2 ≤ k ∧ k < B.heap.size) ∧ True := by
  refine ⟨⟨hA.keeps.trans hg (fun b hb => .inr (by have := (hK b hb).1; omega)), hA.nodup, hA.mine, fun x hx => (hg.block x.1 (hA.lt x hx) (fun hm => hd x.1 hm (List.mem_map_of_mem hx))).trans (hA.holds x hx)⟩, fun k hk hm => ?_, fun k hk => ?_, fun k hk => ⟨?_, (hK' k hk).2⟩, trivial⟩
  · rcases (hK' k hk).1 with h | h
    · exact hd k h hm
    · obtain ⟨x, hx, rfl⟩ := List.mem_map.1 hm
      have := hA.lt x hx; omega
  · exact hg.block k (by omega) (fun hm => by have := (hK k hm).1; omega)
  · rcases (hK' k hk).1 with h | h
    · exact (hK k h).1
    · omega
section
variable {P : Program} {Q : Exit → Act → World → Prop} {s : St} {E : Env} {M : Hp}
set_option maxHeartbeats 1000000 in
/-- A range over a function. The iterator may own memory, too; the body owns the blocks Bk; what holds between two rounds is told by ghosts. -/
theorem C.rangeW {α β : Type} {g : Operand} {ps : List Nat} {assign body : Code} (hro : s.ro = none) {gf : Nat} [Fun P gf] {lb : List Value} (hg : ev E g = some (.func (.func gf) #[] lb.toArray))
    (encs : α → List Value) {V : List α → α → Prop} {S Sp : List α → Prop} (is : List Nat) {Bk : Hp} (hp : hpick M is = some Bk) (hi : is.Nodup)
    (hseq : ∀ w, At s.w0 s.A M w → SeqW P gf lb.toArray (fun x => (encs x).toArray) (keys Bk) V S Sp w)
    (hps : ∀ x, (encs x).length = ps.length) (hpn : ps.all (fun p => Nat.blt p s.n) = true)
    (G : List α → β → Prop) (MI : List α → β → Hp) (Gx : Code → List α → β → Prop) (MX : Code → List α → β → Hp)
    (hc : ∀ pre y, plainM (keys Bk) (MI pre y)) (hcx : ∀ c pre y, plainM (keys Bk) (MX c pre y)) (y0 : β) (hG0 : G [] y0) (hM0 : MI [] y0 = Bk)
    (round : ∀ (l : Nat) (w W : World) (rec : Loop) (pre : List α) (x : α) (y : β), At s.w0 s.A M w → At w (keys Bk) (MI pre y) W → G pre y → V pre x → w.heap.size ≤ l →
      C P assign (Exit.then (RB P l rec body (RE W l (.loop { rec with state := .busy }) G MI Gx MX (l :: keys (MI pre y)) (pre ++ [x]))) (fun _ _ _ => False))
        { w0 := W, A := l :: keys (MI pre y), n := s.n, ro := some l } (pe E ps (encs x)) (MI pre y ++ [(l, .loop rec)]))
    (done : ∀ (Db : Nat) (xs : List α) (y : β), S xs → G xs y → D Q .normal { s with dl := { target := .collected Db, args := #[] } :: s.dl } E ((Db, .deferred (some [])) :: (MI xs y ++ hdrop M is 0)))
    (stop : ∀ (Db : Nat) (c : Code) (pre : List α) (y : β), Sp pre → Gx c pre y → C P c Q { s with dl := { target := .collected Db, args := #[] } :: s.dl } E ((Db, .deferred (some [])) :: (MX c pre y ++ hdrop M is 0))) :
    C P (.rangeFunc g ps.toArray assign body) Q s E M := by
  obtain ⟨w0, A, n, ro, dl⟩ := s
  simp only at hro
  subst hro
  intro a w hs
  have hBk := hs.at_.pick hi hp
  have hKb : ∀ k, w.heap.size ≤ k → k ∉ keys Bk := fun k hk hm => by
    obtain ⟨z, hz, rfl⟩ := List.mem_map.1 hm
    have := hBk.lt z hz; omega
  refine wpIn_n (n := 5) ?_
  refine wpIn_rangeFunc ?_
  intro fn _
  obtain ⟨rec, hrec⟩ : ∃ rec : LoopState → Option Code → Loop, rec = fun st pe => { state := st, pending := pe, fn, tmps := a.tmps, params := ps.toArray, assign, body, defers := w.heap.size } := ⟨_, rfl⟩
  obtain ⟨W1, hW1⟩ : ∃ W1, (w.alloc (.deferred (some []))).alloc (.loop (rec .ready none)) = W1 := ⟨_, rfl⟩
  have hL1 : W1.heap[w.heap.size + 1]? = some (.loop (rec .ready none)) := by
    rw [← hW1]; have := World.alloc_heap_new (w.alloc (.deferred (some []))) (.loop (rec .ready none)); rwa [World.size_alloc] at this
  have hK1 : W1.heap[w.heap.size]? = some (.deferred (some [])) := by
    rw [← hW1]; exact (Below.heap_alloc _ _ _ (by simp)).trans (World.alloc_heap_new w _)
  have hA1 : At w (keys Bk) Bk W1 := by rw [← hW1]; exact ((At.own hBk.nodup hBk.holds).junk _).junk _
  have hb1 : Below w.heap.size w W1 := by rw [← hW1]; exact ((Below.refl _ w).alloc (Nat.le_refl _) _).alloc (by simp) _
  have hz1 : W1.heap.size = w.heap.size + 2 := by rw [← hW1]; simp
  refine ⟨w.heap.size + 1, [{ target := .collected w.heap.size, args := #[] }], W1, { target := .fn (.func gf) lb.toArray, args := #[.func (.yield (w.heap.size + 1)) #[] #[]] }, W1, gf,
    #[.func (.yield (w.heap.size + 1)) #[] #[]] ++ lb.toArray, W1, ?_, ?_, ?_, ?_, fun _ => by omega, ?_⟩
  · rw [← hW1, hrec]; exact run_enterLoop_outer _ _ _ _ _
  · simp only [resolve, hs.ev hg]
    simp [go_sem]
  · intro f' _; trivial
  · simp only [invoke]
    exact callFunc_enter _ _
  · have hw := hs.at_
    refine (hseq w hw (w.heap.size + 1)
      (fun pre K W => (∃ y, G pre y ∧ At w (keys Bk) (MI pre y) W ∧ ∀ k ∈ K, k ∉ keys (MI pre y)) ∧ W.heap[w.heap.size + 1]? = some (.loop (rec .ready none)) ∧ W.heap[w.heap.size]? = some (.deferred (some [])) ∧ ∀ k ∈ K, w.heap.size + 2 ≤ k ∧ k < W.heap.size)
      (fun pre K W => ∃ c, (∃ y, Gx c pre y ∧ At w (keys Bk) (MX c pre y) W ∧ ∀ k ∈ K, k ∉ keys (MX c pre y)) ∧ W.heap[w.heap.size + 1]? = some (.loop (rec .done (some c))) ∧ W.heap[w.heap.size]? = some (.deferred (some [])) ∧ ∀ k ∈ K, w.heap.size + 2 ≤ k ∧ k < W.heap.size)
      W1 hb1 ?_ ?_ ?_ ⟨⟨y0, hG0, by rw [hM0]; exact hA1, fun k h => by cases h⟩, hL1, hK1, fun k h => by cases h⟩).mono ?_
    · rintro pre K K' A B ⟨⟨y, hy, hA, hd⟩, hl, hk, hK⟩ hg' hK'
      obtain ⟨h1, h2, h3, h4, h5⟩ := abd_key hA hd (some_lt hl) hK hg' hK'
      exact ⟨⟨y, hy, h1, h2⟩, (h3 _ (by omega)).trans hl, (h3 _ (by omega)).trans hk, h4⟩
    · rintro pre K K' A B ⟨c, ⟨y, hy, hA, hd⟩, hl, hk, hK⟩ hg' hK'
      obtain ⟨h1, h2, h3, h4, h5⟩ := abd_key hA hd (some_lt hl) hK hg' hK'
      exact ⟨c, ⟨y, hy, h1, h2⟩, (h3 _ (by omega)).trans hl, (h3 _ (by omega)).trans hk, h4⟩
    · rintro pre K x W ⟨⟨y, hy, hA, hd⟩, hl, hk, hKK⟩ hlen
      have hlt : w.heap.size + 1 < W.heap.size := (Array.getElem?_eq_some_iff.1 hl).1
      have hyl := run_yield (P := P) (args := (encs x).toArray) hl (by rw [hrec]; simpa using hps x)
      have hnl : w.heap.size + 1 ∉ keys (MI pre y) := (hc pre y).out hA.holds hl rfl (hKb _ (by omega))
      have hnk : w.heap.size ∉ keys (MI pre y) := (hc pre y).out hA.holds hk rfl (hKb _ (by omega))
      have hr := round (w.heap.size + 1) w W (rec .ready none) pre x y hw hA hy hlen (by omega)
      have hstart : At W ((w.heap.size + 1) :: keys (MI pre y)) (MI pre y ++ [(w.heap.size + 1, .loop (rec .ready none))]) W := by
        refine At.snoc ⟨Keeps.refl _ _, hA.nodup, fun z hz => .inl (List.mem_cons_of_mem _ (List.mem_map.2 ⟨z, hz, rfl⟩)), hA.holds⟩ hl hnl (.inl List.mem_cons_self)
      have htm := pe_sat ps (encs x) hpn hs.size hs.env
      rw [hrec] at hyl
      refine ⟨fn, _, assign, body, hyl, roundIn_of_wpIn trivial (n := 3) ?_⟩
      have hsat : Sat { w0 := W, A := (w.heap.size + 1) :: keys (MI pre y), n := n, ro := some (w.heap.size + 1) } (pe E ps (encs x)) (MI pre y ++ [(w.heap.size + 1, .loop (rec .ready none))])
          { tmps := (ps.toArray.zip (encs x).toArray).foldl (fun t (p, v) => t.setIfInBounds p v) a.tmps, defers := [] } W := by
        have e : (ps.toArray.zip (encs x).toArray).foldl (fun t (z : Nat × Value) => t.setIfInBounds z.1 z.2) a.tmps = (ps.zip (encs x)).foldl (fun t (z : Nat × Value) => t.setIfInBounds z.1 z.2) a.tmps := by simp
        refine ⟨hstart, rfl, ?_, ?_⟩
        · show ((ps.toArray.zip (encs x).toArray).foldl (fun t (z : Nat × Value) => t.setIfInBounds z.1 z.2) a.tmps).size = _
          rw [e]; exact htm.1
        · show ∀ i v, _ → ((ps.toArray.zip (encs x).toArray).foldl (fun t (z : Nat × Value) => t.setIfInBounds z.1 z.2) a.tmps)[i]? = some v
          rw [e]; exact htm.2
      refine wpIn_mono (wpIn_n (m := 3) (hr _ W hsat)) ?_
      rintro e a1 W2 hq
      cases e with
      | normal =>
        obtain ⟨hl2, hbody⟩ := hq
        refine ⟨_, run_beginRound hl2 (by rw [hrec]), ?_⟩
        refine wpIn_mono (wpIn_n (m := 3) hbody) ?_
        have fin : ∀ (M' : Hp) (jump : Option Code) (W3 : World), plainM (keys Bk) M' → At W ((w.heap.size + 1) :: keys (MI pre y)) (M' ++ [(w.heap.size + 1, .loop { rec .ready none with state := .busy })]) W3 →
            (Instr.endRound (w.heap.size + 1) jump).run P W3 = .ok (.bool jump.isNone) (W3.putObj (w.heap.size + 1) (.loop (rec (if jump.isNone then .ready else .done) jump))) ∧
            At w (keys Bk) M' (W3.putObj (w.heap.size + 1) (.loop (rec (if jump.isNone then .ready else .done) jump))) ∧
            (W3.putObj (w.heap.size + 1) (.loop (rec (if jump.isNone then .ready else .done) jump))).heap[w.heap.size + 1]? = some (.loop (rec (if jump.isNone then .ready else .done) jump)) ∧
            (W3.putObj (w.heap.size + 1) (.loop (rec (if jump.isNone then .ready else .done) jump))).heap[w.heap.size]? = some (.deferred (some [])) ∧
            (KprK w (keys Bk) K W (W3.putObj (w.heap.size + 1) (.loop (rec (if jump.isNone then .ready else .done) jump))) ∧ (∀ k ∈ K, k ∉ keys M') ∧ ∀ k ∈ K, w.heap.size + 2 ≤ k ∧ k < (W3.putObj (w.heap.size + 1) (.loop (rec (if jump.isNone then .ready else .done) jump))).heap.size) := by
          intro M' jump W3 hcM h3
          have hl3 := h3.holds (w.heap.size + 1, _) (List.mem_append_right _ List.mem_cons_self)
          have he := run_endRound (P := P) jump hl3
          have hk3 : W3.heap[w.heap.size]? = some (.deferred (some [])) := by
            rw [h3.keeps.block w.heap.size (by omega) (fun hm => by
              rcases List.mem_cons.1 hm with h | h
              · omega
              · exact hnk h)]
            exact hk
          have hsub : ∀ b ∈ (w.heap.size + 1) :: keys (MI pre y), b ∈ keys Bk ∨ w.heap.size ≤ b := by
            intro b hb
            rcases List.mem_cons.1 hb with h | h
            · exact .inr (by omega)
            · obtain ⟨z, hz, rfl⟩ := List.mem_map.1 h
              exact hA.mine z hz
          have hA3 : At w (keys Bk) M' W3 := by
            have h4 := h3.init
            refine ⟨hA.keeps.trans h4.keeps hsub, h4.nodup, fun z hz => ?_, h4.holds⟩
            rcases h4.mine z hz with h5 | h5
            · exact hsub _ h5
            · exact .inr (by omega)
          have hnl3 : w.heap.size + 1 ∉ keys M' := hcM.out hA3.holds hl3 rfl (hKb _ (by omega))
          have hput : At w (keys Bk) M' (W3.putObj (w.heap.size + 1) (.loop (rec (if jump.isNone then .ready else .done) jump))) :=
            hA3.other (grownBy_putObj' W3 (w.heap.size + 1) _) (fun k e => by cases e; exact ⟨by omega, hnl3⟩)
          refine ⟨?_, hput, World.putObj_heap_same (Array.getElem?_eq_some_iff.1 hl3).1, (World.putObj_heap_other (by omega)).trans hk3, ?_⟩
          · rw [hrec] at he ⊢; exact he
          · have hKW : ∀ k ∈ K, k ∉ (w.heap.size + 1) :: keys (MI pre y) := fun k hk9 hm => by
              rcases List.mem_cons.1 hm with h | h
              · have := (hKK k hk9).1; omega
              · exact hd k hk9 h
            refine ⟨⟨fun k hk' hkn => ?_, fun k hk9 => ?_⟩, fun k hk9 hm => ?_, fun k hk9 => ⟨(hKK k hk9).1, ?_⟩⟩
            · rw [hput.keeps.block k hk' hkn, hA.keeps.block k hk' hkn]
            · rw [World.putObj_heap_other (by have := (hKK k hk9).1; omega), h3.keeps.block k (hKK k hk9).2 (hKW k hk9)]
            · obtain ⟨z, hz, rfl⟩ := List.mem_map.1 hm
              rcases h3.init.mine z hz with h5 | h5
              · exact hKW _ hk9 h5
              · have := (hKK _ hk9).2; omega
            · have h9 := h3.keeps.size
              have h8 := (hKK k hk9).2
              simp only [World.putObj, Array.size_setIfInBounds] at *
              omega
        rintro e a3 W3 hp3
        cases e with
        | normal =>
          obtain ⟨y', hy', h3⟩ := hp3
          obtain ⟨h4, h5, h6, h7, h8, h9, h10⟩ := fin _ none W3 (hc _ _) h3
          exact ⟨_, _, h4, .inl ⟨rfl, ⟨y', hy', h5, h9⟩, h6, h7, h10⟩, h8⟩
        | ret =>
          obtain ⟨y', hy', h3⟩ := hp3
          obtain ⟨h4, h5, h6, h7, h8, h9, h10⟩ := fin _ (some .ret) W3 (hcx _ _ _) h3
          exact ⟨_, _, h4, .inr ⟨rfl, .ret, ⟨y', hy', h5, h9⟩, h6, h7, h10⟩, h8⟩
        | exit id =>
          obtain ⟨y', hy', h3⟩ := hp3
          obtain ⟨h4, h5, h6, h7, h8, h9, h10⟩ := fin _ (some (.exit id)) W3 (hcx _ _ _) h3
          exact ⟨_, _, h4, .inr ⟨rfl, .exit id, ⟨y', hy', h5, h9⟩, h6, h7, h10⟩, h8⟩
        | goto t => exact hp3.elim
        | panic ch => exact hp3.elim
        | outgrown => exact hp3.elim
      | ret => exact hq.elim
      | exit id => exact hq.elim
      | goto t => exact hq.elim
      | panic ch => exact hq.elim
      | outgrown => exact hq.elim
    · have fin : ∀ (M' : Hp) (W2 : World) (o : Obj), plainM (keys Bk) M' → At w (keys Bk) M' W2 → W2.heap[w.heap.size + 1]? = some o → o.isCells = false → W2.heap[w.heap.size]? = some (.deferred (some [])) → ∀ o' : Obj,
          Sat { w0 := w0, A := A, n := n, ro := none, dl := { target := .collected w.heap.size, args := #[] } :: dl } E ((w.heap.size, .deferred (some [])) :: (M' ++ hdrop M is 0)) { a with defers := [{ target := .collected w.heap.size, args := #[] }] ++ a.defers } (W2.putObj (w.heap.size + 1) o') := by
        intro M' W2 o hcM h2 hl2 ho hk2 o'
        have hnl : w.heap.size + 1 ∉ keys M' := hcM.out h2.holds hl2 ho (hKb _ (by omega))
        have hput : At w (keys Bk) M' (W2.putObj (w.heap.size + 1) o') := h2.other (grownBy_putObj' W2 _ _) (fun k e => by cases e; exact ⟨by omega, hnl⟩)
        have hkp : (W2.putObj (w.heap.size + 1) o').heap[w.heap.size]? = some (.deferred (some [])) := (World.putObj_heap_other (by omega)).trans hk2
        have hall := hw.frame hp hput
        have hnk : w.heap.size ∉ keys (M' ++ hdrop M is 0) := by
          rw [keys_append]
          intro hm
          rcases List.mem_append.1 hm with h | h
          · exact hcM.out hput.holds hkp rfl (hKb _ (by omega)) h
          · obtain ⟨x, hx, e⟩ := List.mem_map.1 h
            obtain ⟨j, hj, _⟩ := hdrop_mem x hx
            have := hw.lt x (hat_mem hj)
            omega
        refine ⟨⟨hall.keeps, ?_, ?_, ?_⟩, ?_, hs.size, hs.env⟩
        · simp only [keys, List.map_cons, List.nodup_cons]; exact ⟨hnk, hall.nodup⟩
        · intro x hx
          rcases List.mem_cons.1 hx with rfl | hx
          · exact .inr hw.keeps.size
          · exact hall.mine x hx
        · intro x hx
          rcases List.mem_cons.1 hx with rfl | hx
          · exact hkp
          · exact hall.holds x hx
        · show _ :: a.defers = _; rw [hs.defers]
      rintro e W2 ⟨⟨v, rfl⟩, (⟨xs, K, hS, ⟨y, hy, hA, _⟩, hl, hk, _⟩ | ⟨pre, K, hSp, c, ⟨y, hy, hA, _⟩, hl, hk, _⟩)⟩
      · have hrun := run_endLoop (P := P) hl (by rw [hrec]; simp)
        rw [hrec] at hrun
        refine ⟨none, _, hrun, ?_⟩
        exact done w.heap.size xs y hS hy _ _ (fin _ W2 _ (hc _ _) hA hl rfl hk _)
      · have hrun := run_endLoop (P := P) hl (by rw [hrec]; simp)
        rw [hrec] at hrun
        refine ⟨some c, _, hrun, ?_⟩
        exact wpIn_n (m := 5) (stop w.heap.size c pre y hSp hy _ _ (fin _ W2 _ (hcx _ _ _) hA hl rfl hk _))
end
end Go.Proofs.Ytbackpcohkblfaa.SL
