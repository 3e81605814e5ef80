/- The separation logic's rules for maps of whole numbers, told by a function; slices and blocks that are read within a range over a function. No program in sight. -/
import Derived.Test.YtbackpcohkblfaaSepY
set_option linter.unusedVariables false
set_option linter.unusedSimpArgs false
namespace Go.Proofs.Ytbackpcohkblfaa.SL
open Go Go.RowKit

/-- A map that holds f (0 where it holds nothing). -/
def MapF (o : Obj) (f : Int → Int) : Prop := ∃ es c, o = .map (es : List MapEntry).toArray c ∧ intKeys .i64 es = true ∧ ∀ n, (lookI es n).getD (.int .i64 0) = .int .i64 (f n)
theorem MapF.nil : MapF (.map #[] 0) (fun _ => 0) := ⟨[], 0, rfl, rfl, fun _ => rfl⟩
theorem MapF.congr {o : Obj} {f g : Int → Int} (h : MapF o f) (e : ∀ n, f n = g n) : MapF o g := by rw [← funext e]; exact h
def upd (f : Int → Int) (n v : Int) : Int → Int := fun m => if m = n then v else f m
theorem intKeys_app (k : IntKind) : ∀ (es : List MapEntry) (n : Int) (v : Value) (c : Nat), intKeys k es = true → intKeys k (es ++ [(⟨.int k n, v, c⟩ : MapEntry)]) = true
  | [], n, v, c, _ => by simp [intKeys]
  | ⟨key, val, born⟩ :: es, n, v, c, h => by
    unfold intKeys at h
    split at h
    · rename_i q m hk
      simp only at hk; subst hk
      simp only [Bool.and_eq_true, decide_eq_true_eq] at h
      show (decide (q = k) && intKeys k (es ++ [_])) = true
      rw [intKeys_app k es n v c h.2]; simp [h.1]
    · cases h
theorem lookI_app (k : IntKind) : ∀ (es : List MapEntry) (n m : Int) (v : Value) (c : Nat), intKeys k es = true → lookI es n = none → lookI (es ++ [(⟨.int k n, v, c⟩ : MapEntry)]) m = if m = n then some v else lookI es m
  | [], n, m, v, c, _, _ => by simp [lookI]
  | ⟨key, val, born⟩ :: es, n, m, v, c, h, hn => by
    unfold intKeys at h
    split at h
    · rename_i q j hk
      simp only at hk; subst hk
      simp only [Bool.and_eq_true, decide_eq_true_eq] at h
      simp only [lookI, List.cons_append] at hn ⊢
      by_cases e : n = j
      · rw [if_pos e] at hn; cases hn
      · rw [if_neg e] at hn
        rw [lookI_app k es n m v c h.2 hn]
        by_cases e2 : m = j
        · rw [if_pos e2, if_pos e2, if_neg (by omega)]
        · rw [if_neg e2, if_neg e2]
    · cases h
theorem lookI_mod {k : IntKind} {n : Int} {v : Value} : ∀ (es : List MapEntry) (i0 i : Nat) (u : Value), intKeys k es = true → Instr.findNow (.int k) (.int k n) es i0 = some (some (i0 + i, u)) →
    intKeys k (es.modify i fun e => { e with key := .int k n, val := v }) = true ∧ ∃ e0, es[i]? = some e0 ∧ e0.key = .int k n ∧ ∀ m, lookI (es.modify i fun e => { e with key := .int k n, val := v }) m = if m = n then some v else lookI es m
  | [], i0, i, u, _, h => by simp [Instr.findNow] at h
  | ⟨key, val, born⟩ :: es, i0, i, u, hk, h => by
    unfold intKeys at hk
    split at hk
    · rename_i q j hq
      simp only at hq; subst hq
      simp only [Bool.and_eq_true, decide_eq_true_eq] at hk
      obtain ⟨rfl, hk⟩ := hk
      unfold Instr.findNow at h
      simp only [Instr.sameNow, if_true] at h
      by_cases e : n = j
      · subst e
        simp at h
        obtain ⟨h1, rfl⟩ := h
        have : i = 0 := by omega
        subst this
        refine ⟨by simp [intKeys, hk], _, rfl, rfl, fun m => ?_⟩
        simp only [List.modify_zero_cons, lookI]
        by_cases e2 : m = n
        · simp [e2]
        · simp [e2]
      · have e' : (n == j) = false := by simpa using e
        rw [e'] at h
        simp only [Bool.false_eq_true, if_false] at h
        cases i with
        | zero =>
          exfalso
          have hge : ∀ (es : List MapEntry) (a b : Nat) (u : Value), Instr.findNow (.int q) (.int q n) es a = some (some (b, u)) → a ≤ b := by
            intro es
            induction es with
            | nil => intro a b u h; simp [Instr.findNow] at h
            | cons y ys ih =>
              intro a b u h
              unfold Instr.findNow at h
              split at h
              · simp at h; omega
              · have := ih _ _ _ h; omega
              · cases h
          have := hge _ _ _ _ h
          omega
        | succ i =>
          obtain ⟨g1, e0, g2, g3, g4⟩ := lookI_mod (k := q) (n := n) (v := v) es (i0 + 1) i u hk (by rw [h]; congr 3; omega)
          refine ⟨by simp [intKeys, g1], e0, by simpa using g2, g3, fun m => ?_⟩
          simp only [List.modify_succ_cons, lookI, g4 m]
          by_cases e2 : m = j
          · rw [if_pos e2, if_pos e2, if_neg (by omega)]
          · rw [if_neg e2, if_neg e2]
    · cases hk
section
variable {P : Program} {ops : Array Oper} {Q : Exit → Act → World → Prop} {s : St} {E : Env} {M : Hp} {rest : List Oper} {d t : Nat} {pos : String} {af : Array Edge}
/-- What an own map holds at one. -/
theorem L.lookF (i : Nat) {T K V b : Nat} {n : Int} {o : Obj} {f : Int → Int} {l : List Value} {x y : Operand} (hf : MapF o f) [Und P T (.map K V)] [Und P K (.int .i64)] [hz : Zer P V (.int .i64 0) l] (hn : Nat.blt d s.n = true := by exact rfl) (hx : ev E x = some (.map (some b)) := by exact rfl) (hy : ev E y = some (.int .i64 n) := by exact rfl)
    (hi : hat M i = some (b, o) := by exact rfl) (c : L P ops Q rest s ((d, .int .i64 (f n)) :: E) M) : L P ops Q (⟨some d, .lookup T x y false, t, pos, af, none⟩ :: rest) s E M := by
  obtain ⟨es, k, rfl, h1, h2⟩ := hf
  exact L.calm (S := fun ρ => Instr.lookup T (ρ x) (ρ y) false) hn (fun _ => rfl) (fun a w hs => by
    show (Instr.lookup T (a.eval x) (a.eval y) false).run P w = _
    rw [hs.ev hx, hs.ev hy, ← h2 n]
    exact lookup_int (ok := false) (hs.at_.holds _ (hat_mem hi)) h1) c
/-- .. a map of old. -/
theorem L.lookO {T K V b : Nat} {n : Int} {o : Obj} {f : Int → Int} {l : List Value} {x y : Operand} (hf : MapF o f) (hb : s.w0.heap[b]? = some o) (hA : b ∉ s.A) [Und P T (.map K V)] [Und P K (.int .i64)] [hz : Zer P V (.int .i64 0) l] (hn : Nat.blt d s.n = true := by exact rfl) (hx : ev E x = some (.map (some b)) := by exact rfl) (hy : ev E y = some (.int .i64 n) := by exact rfl)
    (c : L P ops Q rest s ((d, .int .i64 (f n)) :: E) M) : L P ops Q (⟨some d, .lookup T x y false, t, pos, af, none⟩ :: rest) s E M := by
  obtain ⟨es, k, rfl, h1, h2⟩ := hf
  exact L.calm (S := fun ρ => Instr.lookup T (ρ x) (ρ y) false) hn (fun _ => rfl) (fun a w hs => by
    show (Instr.lookup T (a.eval x) (a.eval y) false).run P w = _
    rw [hs.ev hx, hs.ev hy, ← h2 n]
    exact lookup_int (ok := false) ((hs.at_.keeps.block b (some_lt hb) hA).trans hb) h1) c
theorem sameBits_int {k : IntKind} {n : Int} : Instr.sameBits 10000 (.int k n) (.int k n) = true := by
  rw [show (10000 : Nat) = 9999 + 1 from rfl]
  simp [Instr.sameBits]
/-- An entry is set. -/
theorem L.putF (i : Nat) {T K V b : Nat} {n v : Int} {o : Obj} {f : Int → Int} {x y z : Operand} (hf : MapF o f) [Und P T (.map K V)] [Und P K (.int .i64)] (hx : ev E x = some (.map (some b)) := by exact rfl) (hy : ev E y = some (.int .i64 n) := by exact rfl) (hz : ev E z = some (.int .i64 v) := by exact rfl)
    (hi : hat M i = some (b, o) := by exact rfl)
    (kk : ∀ o', MapF o' (upd f n v) → L P ops Q rest s E (hset M i o')) : L P ops Q (⟨none, .mapUpdate T x y z, t, pos, af, none⟩ :: rest) s E M := by
  obtain ⟨es, k, rfl, h1, h2⟩ := hf
  have key : ∃ es' k', (∀ w : World, w.heap[b]? = some (.map es.toArray k) → (Instr.mapUpdate T (.map (some b)) (.int .i64 n) (.int .i64 v)).run P w = .ok () { w with heap := w.heap.setIfInBounds b (.map (es' : List MapEntry).toArray k') }) ∧ MapF (.map es'.toArray k') (upd f n v) := by
    obtain ⟨r, h3, h4⟩ := findNow_int (k := .i64) (n := n) es 0 h1
    cases r with
    | none =>
      have hnone : lookI es n = none := by rw [← h4]; rfl
      refine ⟨es ++ [(⟨.int .i64 n, .int .i64 v, k⟩ : MapEntry)], k + 1, fun w hb => ?_, _, _, rfl, intKeys_app _ _ _ _ _ h1, fun m => ?_⟩
      · unfold Instr.mapUpdate
        rw [run_bind_ok und_run]
        simp only
        refine (run_bind_ok (getObj_map hb)).trans ?_
        simp only
        rw [run_bind_ok checkKey_int]
        have hfk : (Instr.findKey K (.int .i64 n) es).run P w = .ok none w := by
          unfold Instr.findKey
          rw [run_bind_ok und_run, h3]; rfl
        refine (run_bind_ok hfk).trans ?_
        have e := setObj_map (P := P) (o := .map (es ++ [(⟨.int .i64 n, .int .i64 v, k⟩ : MapEntry)]).toArray (k + 1)) hb
        have e2 : es.toArray.push (⟨.int .i64 n, .int .i64 v, k⟩ : MapEntry) = (es ++ [(⟨.int .i64 n, .int .i64 v, k⟩ : MapEntry)]).toArray := by simp
        simp only [e2]
        exact e
      · rw [lookI_app _ _ _ _ _ _ h1 hnone]
        unfold upd
        by_cases e : m = n
        · rw [if_pos e, if_pos e]; rfl
        · rw [if_neg e, if_neg e]; exact h2 m
    | some p =>
      obtain ⟨j, u⟩ := p
      obtain ⟨g1, e0, g2, g3, g4⟩ := lookI_mod (k := .i64) (n := n) (v := .int .i64 v) es 0 j u h1 (by rw [h3, Nat.zero_add])
      refine ⟨es.modify j fun e => { e with key := .int .i64 n, val := .int .i64 v }, k, fun w hb => ?_, _, _, rfl, g1, fun m => ?_⟩
      · unfold Instr.mapUpdate
        rw [run_bind_ok und_run]
        simp only
        refine (run_bind_ok (getObj_map hb)).trans ?_
        simp only
        rw [run_bind_ok checkKey_int]
        have hfk : (Instr.findKey K (.int .i64 n) es).run P w = .ok (some (j, u)) w := by
          unfold Instr.findKey
          rw [run_bind_ok und_run, h3]; rfl
        refine (run_bind_ok hfk).trans ?_
        simp only
        have hks : (Instr.keyThatStays (((es.toArray[j]?).map (·.key)).getD (.int .i64 n)) (.int .i64 n)).run P w = .ok (.int .i64 n) w := by
          rw [List.getElem?_toArray, g2]
          simp only [Option.map_some, Option.getD_some, g3]
          unfold Instr.keyThatStays
          rw [if_pos sameBits_int]; rfl
        refine (run_bind_ok hks).trans ?_
        rw [List.modify_toArray]
        exact setObj_map hb
      · rw [g4]
        unfold upd
        by_cases e : m = n
        · rw [if_pos e, if_pos e]; rfl
        · rw [if_neg e, if_neg e]; exact h2 m
  obtain ⟨es', k', hrun, hF⟩ := key
  refine L.act (fun a w hs => ?_) (kk _ hF)
  have hb := hs.at_.holds _ (hat_mem hi)
  refine ⟨_, ?_, At.setObj hs.at_ hi⟩
  refine run_skip (s := Instr.mapUpdate T (a.eval x) (a.eval y) (a.eval z)) ?_
  rw [hs.ev hx, hs.ev hy, hs.ev hz]
  exact hrun w hb
end
/-- What was old ahead of a range over a function is old within a round. -/
theorem Rd.round {w0 w W : World} {A : List Nat} {M Bk MI : Hp} {l n : Nat} {v : Value} {cells : List Value} (h : Rd w0 A v n cells) (hw : At w0 A M w) (hA : At w (keys Bk) MI W) (hB : ∀ x ∈ Bk, x ∈ M) (hl : w.heap.size ≤ l) : Rd W (l :: keys MI) v n cells := by
  refine ⟨h.1, fun hn => ?_⟩
  have ho := (h.2 hn).base hw Bk hB
  have h2 := ho.base hA MI (fun _ h => h)
  refine ⟨h2.1, fun hm => ?_, h2.2.2⟩
  rcases List.mem_cons.1 hm with rfl | hm
  · have := ho.1; omega
  · exact h2.2.1 hm
theorem Held.round {w0 w W : World} {A : List Nat} {M Bk MI : Hp} {l b : Nat} {o : Obj} (hx : (b, o) ∈ M) (hw : At w0 A M w) (hA : At w (keys Bk) MI W) (hb : b ∉ keys Bk) (hl : w.heap.size ≤ l) : W.heap[b]? = some o ∧ b ∉ l :: keys MI := by
  have h1 := hw.holds _ hx
  have hlt : b < w.heap.size := some_lt h1
  refine ⟨(hA.keeps.block b hlt hb).trans h1, fun hm => ?_⟩
  rcases List.mem_cons.1 hm with rfl | hm
  · omega
  · obtain ⟨z, hz, rfl⟩ := List.mem_map.1 hm
    rcases hA.mine z hz with h2 | h2
    · exact hb h2
    · omega
/-- An iterator is entered; what was there ahead still is. -/
theorem Seq.enterK {α : Type} {P : Program} {f n : Nat} {fn : Func} {c : Code} {lb : List Value} {encs : α → Array Value} {V : List α → α → Prop} {S Sp : List α → Prop} {w : World} {Bk : List Nat} {Bx : Hp} (hf : P.funcs[f]? = some fn) (hnt : fn.ntmps = n) (hb : fn.body = some c) (hlen : Nat.ble (lb.length + 1) n = true)
    (hnd : (keys Bx).Nodup) (hBx : ∀ x ∈ Bx, w.heap[x.1]? = some x.2) (hBk : ∀ x ∈ Bx, x.1 ∉ Bk)
    (h : ∀ (l : Nat) (J Jx : List α → World → Prop) (W : World), It P l encs J Jx w Bk Bx V → Jb J Bx [] W → (∀ (k : Nat) (o : Obj), w.heap[k]? = some o → W.heap[k]? = some o) → C P c (bodyPost P fn (StopPost S Sp J Jx)) { w0 := W, A := keys Bx, n := n } (env0 (.func (.yield l) #[] #[] :: lb) 0) Bx) :
    SeqV P f lb.toArray encs (Kpr w Bk) V S Sp w := by
  subst hnt
  intro l J Jx W hbw hJ hJx hY h0
  have hW : ∀ x ∈ Bx, W.heap[x.1]? = some x.2 := fun x hx => (hbw.block x.1 (some_lt (hBx x hx))).trans (hBx x hx)
  have hit : It P l encs J Jx w Bk Bx V := ⟨hY, fun xs W W' h k => hJ xs W W' none h k.grown (fun r e => by cases e), fun xs W W' h k => hJx xs W W' none h k.grown (fun r e => by cases e), hnd, fun x hx => ⟨some_lt (hBx x hx), hBk x hx⟩⟩
  have e : #[Value.func (.yield l) #[] #[]] ++ lb.toArray = (Value.func (.yield l) #[] #[] :: lb).toArray := by simp
  rw [e]
  refine (callsIn_wide (n := 4)).2 (calls_of_wp hf hb (wpIn_wide (n := 0).1 ?_))
  exact h l J Jx W hit ⟨h0, hW⟩ (fun k o hk => (hbw.block k (some_lt hk)).trans hk) _ W (start_sat hnd hW (by simpa using Nat.le_of_ble_eq_true hlen))
/-- A slice's cells, as long as its block stays. -/
theorem Rd.kept {w W : World} {A A' : List Nat} {n : Nat} {v : Value} {cells : List Value} (h : Rd w A v n cells) (hk : 0 < n → ∀ o, w.heap[sB v]? = some o → W.heap[sB v]? = some o) (hA : 0 < n → sB v ∉ A') : Rd W A' v n cells := by
  refine ⟨h.1, fun hn => ?_⟩
  obtain ⟨h1, h2, h3⟩ := h.2 hn
  obtain ⟨o, ho⟩ : ∃ o, w.heap[sB v]? = some o := ⟨_, Array.getElem?_eq_getElem h1⟩
  have hW := hk hn o ho
  refine ⟨some_lt hW, hA hn, fun i u hi => ?_⟩
  have := h3 i u hi
  unfold World.cell? at this ⊢
  rw [ho] at this; rw [hW]; exact this
end Go.Proofs.Ytbackpcohkblfaa.SL
