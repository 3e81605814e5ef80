/- The separation logic's rules for an iterator that owns memory, and for the functions that it calls while it is at work. No program in sight. -/
import Derived.Test.YtbackpcohkblfaaSepRW
import Derived.Test.YtbackpcohkblfaaSepT
set_option linter.unusedVariables false
set_option linter.unusedSimpArgs false
namespace Go.Proofs.Ytbackpcohkblfaa.SL
open Go Go.RowKit

/-- What a call of yield does, and what the caller's word abides. -/
structure ItW {α : Type} (P : Program) (l : Nat) (encs : α → Array Value) (J Jx : List α → List Nat → World → Prop) (w : World) (Bk : List Nat) (V : List α → α → Prop) : Prop where
  yl : ∀ pre K x W1, J pre K W1 → V pre x → YieldAt Fence.wide 3 P l (encs x) W1 fun e W' =>
      ((e = .returned (.bool true) ∧ J (pre ++ [x]) K W') ∨ (e = .returned (.bool false) ∧ Jx (pre ++ [x]) K W')) ∧ KprK w Bk K W1 W'
  aj : ∀ pre, Abd (J pre)
  ax : ∀ pre, Abd (Jx pre)
def StopW {α : Type} (S Sp : List α → Prop) (J Jx : List α → List Nat → World → Prop) : Ending → World → Prop := fun e W' => (∃ v, e = .returned v) ∧ ((∃ xs K, S xs ∧ J xs K W') ∨ (∃ pre K, Sp pre ∧ Jx pre K W'))
/-- A contract while an iterator is at work: own blocks; what holds of the caller's word, ahead and behind; other own blocks F stay. -/
def PostW (F : Hp) (R : Value → Hp → (List Nat → World → Prop) → Prop) : Ending → World → Prop := fun e w' => ∃ v B I, e = .returned v ∧ R v B I ∧ (keys (B ++ F)).Nodup ∧ (∀ x ∈ B ++ F, w'.heap[x.1]? = some x.2) ∧ I (keys (B ++ F)) w'
def CtrW (P : Program) (f : FuncId) (args : List Value) (A : Hp) (I : List Nat → World → Prop) (R : Value → Hp → (List Nat → World → Prop) → Prop) : Prop :=
  ∀ (F : Hp) (w : World), (keys (A ++ F)).Nodup → (∀ x ∈ A ++ F, w.heap[x.1]? = some x.2) → I (keys (A ++ F)) w → Calls P f args.toArray w (PostW F R)
theorem Abd.at {I : List Nat → World → Prop} (ha : Abd I) {K : List Nat} {W w : World} {M : Hp} (h0 : I K W) (hw : At W K M w) {M' : Hp} (hM : ∀ x ∈ M', x ∈ M) : I (keys M') w :=
  ha K _ W w h0 hw.keeps (fun k hk => by
    obtain ⟨x, hx, rfl⟩ := List.mem_map.1 hk
    exact ⟨hw.mine x (hM x hx), hw.lt x (hM x hx)⟩)
theorem PostW.mkD {I : List Nat → World → Prop} (ha : Abd I) {K : List Nat} {W w : World} {M B F : Hp} {R : Value → Hp → (List Nat → World → Prop) → Prop} {v : Value} (h0 : I K W) (n : Nat) (hw : At W K M w) (hp : M.drop n = B ++ F) (hr : R v B I) : PostW F R (.returned v) w := by
  have hd := hw.drop n
  rw [hp] at hd
  exact ⟨v, B, I, rfl, hr, hd.nodup, hd.holds, ha.at h0 hd (fun _ h => h)⟩
section
variable {P : Program} {ops : Array Oper} {Q : Exit → Act → World → Prop} {s : St} {E : Env} {M : Hp} {rest : List Oper} {d t : Nat} {pos : String} {af : Array Edge}
theorem CtrW.mono {f : FuncId} {args : List Value} {A : Hp} {I : List Nat → World → Prop} {R R' : Value → Hp → (List Nat → World → Prop) → Prop} (h : CtrW P f args A I R) (hr : ∀ v B I', R v B I' → R' v B I') : CtrW P f args A I R' :=
  fun F w h1 h2 h3 => (h F w h1 h2 h3).mono fun _ _ ⟨v, B, I', h4, h5, h6⟩ => ⟨v, B, I', h4, hr v B I' h5, h6⟩
/-- A contract that asks nothing of the world holds while an iterator is at work, too. -/
theorem Ctr.work {f : FuncId} {args : List Value} {A : Hp} {R : Value → Hp → Prop} (h : Ctr P f args A tt R) {I : List Nat → World → Prop} (ha : Abd I) : CtrW P f args A I (fun v B I' => R v B ∧ I' = I) := by
  intro F w h1 h2 h3
  have hk : (keys A ++ keys F).Nodup := by rw [← keys_append]; exact h1
  refine (h w (List.nodup_append.1 hk).1 (fun x hx => h2 x (List.mem_append_left _ hx)) trivial).mono ?_
  rintro e w' ⟨v, B, rfl, hr, hA⟩
  have hw : At w (keys (A ++ F)) (A ++ F) w := At.own h1 h2
  have hF : ∀ x ∈ F, x.1 ∉ keys A := fun x hx hm => (List.nodup_append.1 hk).2.2 _ hm _ (List.mem_map_of_mem hx) rfl
  have hlt : ∀ x ∈ F, x.1 < w.heap.size := fun x hx => some_lt (h2 x (List.mem_append_right _ hx))
  have hkA : ∀ b, b ∈ keys A → b ∈ keys (A ++ F) := fun b hb => by rw [keys_append]; exact List.mem_append_left _ hb
  have hAll : At w (keys (A ++ F)) (B ++ F) w' := by
    refine ⟨⟨hA.keeps.os, hA.keeps.tape, hA.keeps.output, hA.keeps.size, fun k hk' hn => hA.keeps.block k hk' (fun hm => hn (hkA k hm))⟩, ?_, ?_, ?_⟩
    · rw [keys_append, List.nodup_append]
      refine ⟨hA.nodup, (List.nodup_append.1 hk).2.1, fun a ha b hb e => ?_⟩
      subst e
      obtain ⟨x, hx, rfl⟩ := List.mem_map.1 ha
      obtain ⟨y, hy, e⟩ := List.mem_map.1 hb
      rcases hA.mine x hx with h3 | h3
      · rw [← e] at h3; exact hF y hy h3
      · have := hlt y hy; rw [e] at this; omega
    · intro x hx
      rcases List.mem_append.1 hx with hx | hx
      · rcases hA.mine x hx with h3 | h3
        · exact .inl (hkA _ h3)
        · exact .inr h3
      · left; rw [keys_append]; exact List.mem_append_right _ (List.mem_map_of_mem hx)
    · intro x hx
      rcases List.mem_append.1 hx with hx | hx
      · exact hA.holds x hx
      · rw [hA.keeps.block _ (hlt x hx) (hF x hx)]; exact h2 x (List.mem_append_right _ hx)
  exact ⟨v, B, I, rfl, ⟨hr, rfl⟩, hAll.nodup, hAll.holds, ha.at h3 hAll (fun _ h => h)⟩
theorem env_at {args : List Value} {n : Nat} (hlen : Nat.ble args.length n = true) : ∀ i v, lk (env0 args 0) i = some v → (args.toArray ++ Array.replicate (n - args.toArray.size) undef)[i]? = some v := by
  intro i v hi
  obtain ⟨_, h4⟩ := env0_get hi
  rw [Nat.sub_zero] at h4
  have hlt : i < args.length := by
    rcases Nat.lt_or_ge i args.length with h | h
    · exact h
    · rw [List.getElem?_eq_none h] at h4; cases h4
  simp only [List.size_toArray]
  rw [Array.getElem?_append_left (by simpa using hlt)]
  simpa using h4
theorem CtrW.enter {f n : Nat} {fn : Func} {c : Code} {args : List Value} {A : Hp} {I : List Nat → World → Prop} {R : Value → Hp → (List Nat → World → Prop) → Prop} (hf : P.funcs[f]? = some fn) (hnt : fn.ntmps = n) (hb : fn.body = some c) (hlen : Nat.ble args.length n = true)
    (h : ∀ (F : Hp) (w : World), I (keys (A ++ F)) w → C P c (bodyPost P fn (PostW F R)) { w0 := w, A := keys (A ++ F), n := n } (env0 args 0) (A ++ F)) : CtrW P f args A I R := by
  subst hnt
  intro F w h1 h2 h3
  exact calls_of_wp hf hb (wpIn_wide (n := 0).1 (h F w h3 _ w (start_sat h1 h2 (Nat.le_of_ble_eq_true hlen))))
/-- A call while an iterator is at work. -/
theorem L.callW {n : Nat} {dl : List Deferred} {K : List Nat} {W : World} {I : List Nat → World → Prop} (ha : Abd I) (h0 : I K W) {f : FuncId} [Fun P f] {g : Operand} {xs : List Operand} {ts : Array TypeId} {vs cs fs us : List Value} {A : Hp} (F : Hp) {R : Value → Hp → (List Nat → World → Prop) → Prop} (spec : CtrW P f us A I R)
    (hn : Nat.blt d n = true := by exact rfl) (hg : ev E g = some (.func (.func f) fs.toArray cs.toArray) := by exact rfl) (hx : evs E xs = some vs := by exact rfl) (hu : fs ++ vs ++ cs = us := by exact rfl) (hA : M = A ++ F := by exact rfl)
    (k : ∀ v B I' W', R v B I' → I' (keys (B ++ F)) W' → L P ops Q rest { w0 := W', A := keys (B ++ F), n := n, ro := none, dl := dl } ((d, v) :: E) (B ++ F)) :
    L P ops Q (⟨some d, .call { callee := .value g, args := xs.toArray, argTypes := ts }, t, pos, af, none⟩ :: rest) { w0 := W, A := K, n := n, ro := none, dl := dl } E M := by
  intro a w hs
  refine wpListIn_plain rfl fun K' hK => ⟨fun _ _ => trivial, ?_⟩
  rw [Oper.semAt_eq _ _ _ (by intro c h; cases h), call_run hs hg hx]
  refine ⟨(fun h => by cases h), calls_fen ?_⟩
  subst hA
  rw [hu]
  refine (spec F w hs.at_.nodup hs.at_.holds (ha.at h0 hs.at_ (fun _ h => h))).mono ?_
  rintro e w' ⟨v, B, I', rfl, hr, hnd, hho, hI⟩
  refine hK _ _ (k v B I' w' hr hI _ _ ⟨At.own hnd hho, hs.defers, ?_, ?_⟩)
  · exact (hs.put hn v hs.at_).size
  · exact (hs.put hn v hs.at_).env
theorem roundIn_n' {n m : Nat} {P : Program} {l f : Nat} {tmps : Array Value} {assign body : Code} {w : World} {R : Ending → World → Prop} (h : RoundIn Fence.wide n P l f tmps assign body w R) : RoundIn Fence.wide m P l f tmps assign body w R := ⟨h.1, fun c cs _ => h.2 c cs (fen_room none _)⟩
/-- A call of yield by an iterator that owns memory. -/
theorem L.yieldW {α : Type} {n : Nat} {dl : List Deferred} {l : Nat} {V : List α → α → Prop} {encs : α → Array Value} {J Jx : List α → List Nat → World → Prop} {w W : World} {Bk K : List Nat} (hit : ItW P l encs J Jx w Bk V)
    {pre : List α} (x : α) {g : Operand} {xs : List Operand} {ts : Array TypeId} {vs : List Value} (hJ : J pre K W) (hV : V pre x) (hn : Nat.blt d n = true) (hg : ev E g = some (.func (.yield l) #[] #[])) (hx : evs E xs = some vs) (he : encs x = vs.toArray)
    (kt : ∀ W', J (pre ++ [x]) (keys M) W' → L P ops Q rest { w0 := W', A := keys M, n := n, ro := none, dl := dl } ((d, .bool true) :: E) M)
    (kf : ∀ W', Jx (pre ++ [x]) (keys M) W' → L P ops Q rest { w0 := W', A := keys M, n := n, ro := none, dl := dl } ((d, .bool false) :: E) M) :
    L P ops Q (⟨some d, .call { callee := .value g, args := xs.toArray, argTypes := ts }, t, pos, af, none⟩ :: rest) { w0 := W, A := K, n := n, ro := none, dl := dl } E M := by
  intro a w1 hs
  obtain ⟨fn, tmps, assign, body, hrun, hround⟩ := hit.yl pre (keys M) x w1 ((hit.aj pre).at hJ hs.at_ (fun _ h => h)) hV
  have hr : (execOp a.eval ⟨some d, .call { callee := .value g, args := xs.toArray, argTypes := ts }, t, pos, af, none⟩).run P w1 = .ok (.round l fn tmps assign body) w1 := by
    show Sem.run P (do let d ← resolve a.eval { callee := .value g, args := xs.toArray, argTypes := ts } t; invoke d.target d.args) w1 = _
    unfold resolve
    simp only [List.map_toArray, evs_map hs hx, hs.ev hg]
    show Sem.run P (Instr.yield l ((#[] ++ vs.toArray) ++ #[])) w1 = _
    rw [show ((#[] : Array Value) ++ vs.toArray) ++ #[] = encs x by rw [he]; simp]
    exact hrun
  refine wpListIn_plain rfl fun K' hK => ⟨fun _ _ => trivial, ?_⟩
  rw [Oper.semAt_eq _ _ _ (by intro c h; cases h), hr]
  refine ⟨(fun h => by cases h), ?_⟩
  refine (roundIn_n' (m := 0 - 1) hround).mono ?_
  rintro e W' ⟨hc, hkp⟩
  have hat : At W' (keys M) M W' := At.own hs.at_.nodup (fun y hy => by rw [hkp.2 y.1 (List.mem_map_of_mem hy)]; exact hs.at_.holds y hy)
  rcases hc with ⟨rfl, hj⟩ | ⟨rfl, hj⟩
  · exact hK _ _ (kt W' hj _ _ ⟨hat, hs.defers, (hs.put hn (.bool true) hs.at_).size, (hs.put hn (.bool true) hs.at_).env⟩)
  · exact hK _ _ (kf W' hj _ _ ⟨hat, hs.defers, (hs.put hn (.bool false) hs.at_).size, (hs.put hn (.bool false) hs.at_).env⟩)
theorem SeqW.enter {α : Type} {f n : Nat} {fn : Func} {c : Code} {lb : List Value} {encs : α → Array Value} {V : List α → α → Prop} {S Sp : List α → Prop} {w : World} {Bk : List Nat} (hf : P.funcs[f]? = some fn) (hnt : fn.ntmps = n) (hb : fn.body = some c) (hlen : Nat.ble (lb.length + 1) n = true)
    (h : ∀ l J Jx W, ItW P l encs J Jx w Bk V → J [] [] W → Below w.heap.size w W → C P c (bodyPost P fn (StopW S Sp J Jx)) { w0 := W, A := [], n := n } (env0 (.func (.yield l) #[] #[] :: lb) 0) []) :
    SeqW P f lb.toArray encs Bk V S Sp w := by
  subst hnt
  intro l J Jx W hbw hJ hJx hY h0
  have e : #[Value.func (.yield l) #[] #[]] ++ lb.toArray = (Value.func (.yield l) #[] #[] :: lb).toArray := by simp
  rw [e]
  refine (callsIn_wide (n := 4)).2 (calls_of_wp hf hb (wpIn_wide (n := 0).1 ?_))
  exact h l J Jx W ⟨hY, hJ, hJx⟩ h0 hbw _ W (start_sat (A := []) (by simp [keys]) (by simp) (by simpa using Nat.le_of_ble_eq_true hlen))
end
end Go.Proofs.Ytbackpcohkblfaa.SL
