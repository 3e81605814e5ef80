
/- The separation logic's rules for texts: a range over a text's runes; calls through a function value. No program in sight. -/
import Derived.Test.YtbackpcohkblfaaSepW
import Derived.Laws.StandIn
import Derived.Lib.Bytealg
set_option linter.unusedVariables false
namespace Go.Proofs.Ytbackpcohkblfaa.SL
open Go Go.RowKit
section
variable {P : Program} {ops : Array Oper} {Q : Exit → Act → World → Prop} {s : St} {E : Env} {M : Hp} {rest : List Oper} {d t : Nat} {pos : String} {af : Array Edge}
theorem L.rangeS {T : Nat} {x : Operand} {b : ByteArray} [Und P T .string] (hn : Nat.blt d s.n = true := by exact rfl) (hx : ev E x = some (.string b) := by exact rfl)
    (c : ∀ k, L P ops Q rest s ((d, .pointer (some ⟨k, 0, none⟩)) :: E) ((k, .stringIter b 0) :: M)) : L P ops Q (⟨some d, .range T x, t, pos, af, none⟩ :: rest) s E M :=
  L.newB (f := fun k => .pointer (some ⟨k, 0, none⟩)) hn (fun a w hs => by
    refine run_value (s := Instr.range T (a.eval x)) ?_
    rw [hs.ev hx]
    unfold Instr.range
    rw [run_bind_ok und_run]
    rfl) c
theorem getObj_it {b p : Nat} {q : ByteArray} {w : World} (hb : w.heap[b]? = some (.stringIter q p)) : (getObj b).run P w = .ok (.stringIter q p) w := by
  show Sem.run P (.getObj b .pure) w = _
  rw [Sem.run, hb]; rfl
theorem setObj_it {b p : Nat} {q : ByteArray} {o : Obj} {w : World} (hb : w.heap[b]? = some (.stringIter q p)) : (setObj b o).run P w = .ok () { w with heap := w.heap.setIfInBounds b o } := by
  show Sem.run P (.setObj b o (.pure ())) w = _
  rw [Sem.run, hb]; rfl
theorem L.nextS (i : Nat) {x : Operand} {b : Nat} {q : ByteArray} {p c wd : Nat} {M' : Hp} (hn : Nat.blt d s.n = true := by exact rfl) (hx : ev E x = some (.pointer (some ⟨b, 0, none⟩)) := by exact rfl) (hi : hat M i = some (b, .stringIter q p) := by exact rfl)
    (hlt : p < q.size) (hd : Utf8.decode q p = (c, wd)) (hM : hset M i (.stringIter q (p + wd)) = M' := by simp only [hset]; rfl)
    (k : L P ops Q rest s ((d, .tuple #[.bool true, .int .i64 p, .int .i32 c]) :: E) M') : L P ops Q (⟨some d, .next x true, t, pos, af, none⟩ :: rest) s E M :=
  L.val hn (fun a w hs => by
    have hb := hs.at_.holds _ (hat_mem hi)
    refine ⟨_, ?_, by rw [← hM]; exact At.setObj hs.at_ hi⟩
    refine run_value (s := Instr.next (a.eval x) true t) ?_
    rw [hs.ev hx]
    unfold Instr.next
    simp only
    refine (run_bind_ok (getObj_it hb)).trans ?_
    simp only
    rw [if_pos hlt, hd]
    simp only
    refine (run_bind_ok (setObj_it (o := .stringIter q (p + wd)) hb)).trans ?_
    rfl) k
theorem L.nextE (i : Nat) {x : Operand} {b : Nat} {q : ByteArray} {p : Nat} (hn : Nat.blt d s.n = true := by exact rfl) (hx : ev E x = some (.pointer (some ⟨b, 0, none⟩)) := by exact rfl) (hi : hat M i = some (b, .stringIter q p) := by exact rfl)
    (hge : q.size ≤ p) (k : L P ops Q rest s ((d, .tuple #[.bool false]) :: E) M) : L P ops Q (⟨some d, .next x true, t, pos, af, none⟩ :: rest) s E M :=
  L.val hn (fun a w hs => by
    have hb := hs.at_.holds _ (hat_mem hi)
    refine ⟨w, ?_, hs.at_⟩
    refine run_value (s := Instr.next (a.eval x) true t) ?_
    rw [hs.ev hx]
    unfold Instr.next
    simp only
    refine (run_bind_ok (getObj_it hb)).trans ?_
    simp only
    rw [if_neg (by omega)]
    rfl) k
/-- A call of a function that the model itself has. -/
theorem L.callX {f : FuncId} {xs : List Operand} {ts : Array TypeId} {vs : List Value} {v : Value} (hX : ∀ w, (callFunc f vs.toArray).run P w = .ok (.value v) w) (hn : Nat.blt d s.n = true := by exact rfl) (hx : evs E xs = some vs := by exact rfl)
    (k : L P ops Q rest s ((d, v) :: E) M) : L P ops Q (⟨some d, .call { callee := .value (.func f), args := xs.toArray, argTypes := ts }, t, pos, af, none⟩ :: rest) s E M :=
  L.val hn (fun a w hs => ⟨w, by
    show Sem.run P (do let d ← resolve a.eval { callee := .value (.func f), args := xs.toArray, argTypes := ts } t; invoke d.target d.args) w = _
    unfold resolve
    simp only [List.map_toArray, evs_map hs hx]
    show Sem.run P (callFunc f ((#[] ++ vs.toArray) ++ #[])) w = _
    have e : ((#[] ++ vs.toArray) ++ #[] : Array Value) = vs.toArray := by simp
    rw [e]; exact hX w, hs.at_⟩) k
theorem At.tail {w0 w w' : World} {A0 : List Nat} {T A B : Hp} (h : At w0 A0 (T ++ A) w) (h' : At w (keys A) B w') : At w0 A0 (T ++ B) w' := by
  have hnd : (keys T ++ keys A).Nodup := by have := h.nodup; unfold keys at this ⊢; simpa using this
  have hmT : ∀ x ∈ T, x ∈ T ++ A := fun x hx => List.mem_append_left _ hx
  have hmA : ∀ b ∈ keys A, b ∈ A0 ∨ w0.heap.size ≤ b := fun b hb => by
    obtain ⟨x, hx, rfl⟩ := List.mem_map.1 hb
    exact h.mine x (List.mem_append_right _ hx)
  have hTA : ∀ x ∈ T, x.1 ∉ keys A := fun x hx hk => (List.nodup_append.1 hnd).2.2 _ (List.mem_map_of_mem hx) _ hk rfl
  refine ⟨h.keeps.trans h'.keeps hmA, ?_, ?_, ?_⟩
  · show (List.map _ (T ++ B)).Nodup
    rw [List.map_append, List.nodup_append]
    refine ⟨(List.nodup_append.1 hnd).1, h'.nodup, fun a ha b hb e => ?_⟩
    subst e
    obtain ⟨x, hx, rfl⟩ := List.mem_map.1 ha
    obtain ⟨y, hy, e⟩ := List.mem_map.1 hb
    rcases h'.mine y hy with h1 | h1
    · rw [e] at h1; exact hTA x hx h1
    · have := h.lt x (hmT x hx); rw [e] at h1; omega
  · intro x hx
    rcases List.mem_append.1 hx with hx | hx
    · exact h.mine x (hmT x hx)
    · rcases h'.mine x hx with h1 | h1
      · exact hmA _ h1
      · exact .inr (Nat.le_trans h.keeps.size h1)
  · intro x hx
    rcases List.mem_append.1 hx with hx | hx
    · rw [h'.keeps.block _ (h.lt x (hmT x hx)) (hTA x hx)]; exact h.holds x (hmT x hx)
    · exact h'.holds x hx
theorem At.drop {w0 w : World} {A : List Nat} {M : Hp} (h : At w0 A M w) (n : Nat) : At w0 A (M.drop n) w :=
  ⟨h.keeps, by have := h.nodup; unfold keys at this ⊢; rw [List.map_drop]; exact this.sublist (List.drop_sublist _ _), fun x hx => h.mine x (List.mem_of_mem_drop hx), fun x hx => h.holds x (List.mem_of_mem_drop hx)⟩
/-- A call that is handed all blocks but the first n. -/
theorem L.callD (n : Nat) {f : FuncId} [Fun P f] {g : Operand} {xs : List Operand} {ts : Array TypeId} {vs cs fs us : List Value} {A : Hp} {pre : World → Prop} {R : Value → Hp → Prop} (spec : Ctr P f us A pre R) (hn : Nat.blt d s.n = true := by exact rfl)
    (hg : ev E g = some (.func (.func f) fs.toArray cs.toArray) := by exact rfl) (hx : evs E xs = some vs := by exact rfl) (hu : fs ++ vs ++ cs = us := by exact rfl) (hA : M.drop n = A := by exact rfl) (hpre : ∀ w, At s.w0 s.A M w → pre w := by exact fun _ _ => trivial)
    (k : ∀ v B, R v B → L P ops Q rest s ((d, v) :: E) (M.take n ++ B)) : L P ops Q (⟨some d, .call { callee := .value g, args := xs.toArray, argTypes := ts }, t, pos, af, none⟩ :: rest) s E M := by
  intro a w hs
  refine wpListIn_plain rfl fun K hK => ⟨fun _ _ => trivial, ?_⟩
  rw [Oper.semAt_eq _ _ _ (by intro c h; cases h), call_run hs hg hx]
  have hB := hs.at_.drop n
  refine ⟨(fun h => by cases h), calls_fen ?_⟩
  subst hA
  rw [hu]
  refine (spec w hB.nodup hB.holds (hpre w hs.at_)).mono ?_
  rintro e w' ⟨v, B, rfl, hr, hw⟩
  have hT : At s.w0 s.A (M.take n ++ M.drop n) w := by rw [List.take_append_drop]; exact hs.at_
  exact hK _ _ (k v B hr _ _ (hs.put hn v (hT.tail hw)))
theorem Post.mkD {w0 w : World} {A : List Nat} {R : Value → Hp → Prop} {v : Value} {B : Hp} (n : Nat) (h : At w0 A M w) (hp : M.drop n = B) (hr : R v B) : Post w0 A R (.returned v) w := ⟨v, B, rfl, hr, hp ▸ h.drop n⟩
theorem Sat.lessE {E' : Env} {M' : Hp} (hM : M = M') (hE : ∀ i v, lk E' i = some v → lk E i = some v) {a : Act} {w : World} (h : Sat s E M a w) : Sat s E' M' a w :=
  ⟨hM ▸ h.at_, h.defers, h.size, fun i v hi => h.env i v (hE i v hi)⟩
end
end Go.Proofs.Ytbackpcohkblfaa.SL
