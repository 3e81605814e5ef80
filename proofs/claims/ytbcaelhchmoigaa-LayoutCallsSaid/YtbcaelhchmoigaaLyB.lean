import Derived.Test.YtbcaelhchmoigaaLyA
set_option linter.unusedVariables false
set_option linter.unusedSimpArgs false
namespace Go.Proofs.Ytbcaelhchmoigaa.Ly
open Go Go.RowKit Calm SL
attribute [local irreducible] SL.L SL.C SL.D SL.N SL.H SL.QL SL.QW SL.QP
theorem vs_len (x : Ln) : (Ln.vs x).length = 11 := rfl
theorem ln_at {l : List Ln} {i : Nat} {x : Ln} (h : l[i]? = some x) : ((l.flatMap Ln.vs).drop (i * 11)).take 11 = [.int .i64 x.lab, .int .i64 x.ins.op, .int .i64 x.ins.d, .int .i64 x.ins.s, .int .i64 x.ins.t, .int .i64 x.ins.mb, .int .i64 x.ins.mi, .int .i64 x.ins.ms, .int .i64 x.ins.md, .int .i64 x.ins.imm, .int .i64 x.to] ∧ i * 11 + 11 ≤ (l.flatMap Ln.vs).length := flat_at vs_len h
def encN (x : Nat × Ln) : List Value := [.int .i64 x.1, .int .i64 x.2.size]
theorem sized_S (n : Nat) (v : Value) (hv : SlV v n) : Ctr Try.prog 27 [v] [] tt (fun u B => ∃ b, u = .func (.func 42) #[] #[.pointer (some ⟨b, 0, none⟩)] ∧ B = [(b, ob [v] 22)]) := by
  obtain ⟨p, cap, rfl, _⟩ := hv
  refine Ctr.enter Try.func27 Try.ntmps27 rfl rfl (fun w _ => ?_)
  repeat (first | refine Af ?_ | refine Ac ?_ | refine Aa ?_ | refine Ae ?_ | refine Ag ?_ | refine L.box (c := fun _ => ?_) | refine An ?_ | refine L.makeFunc (k := ?_) | refine L.makeFunc (by exact rfl) (by exact rfl) (by exact rfl) ?_)
  refine D.ret (vs := [_]) (RV.tmp rfl RV.nil) ?_
  intro w' hw
  exact Post.mk (is := [0]) hw (by decide) rfl ⟨_, rfl, rfl⟩
set_option maxRecDepth 100000 in
set_option maxHeartbeats 4000000 in
theorem sized1_seq (l : List Ln) (hl : l.length ≤ 1000) (hok : ∀ x ∈ l, x.ok) (v : Value) (w : World) (b : Nat) (hb : w.heap[b]? = some (ob [v] 22)) (A : List Nat) (hr : Rd w A v l.length (l.flatMap Ln.vs)) (Bk : List Nat) (hBk : b ∉ Bk) (hA : ∀ k ∈ Bk, k ∈ A) (hbA : b ∈ A) :
    SeqV Try.prog 42 [.pointer (some ⟨b, 0, none⟩)].toArray (fun x => (encN x).toArray) (Kpr w Bk) (fun pre x => x.1 = pre.length ∧ ∃ r, l = pre.map (·.2) ++ x.2 :: r) (fun xs => xs.map (·.2) = l) (fun pre => ∃ r, l = pre.map (·.2) ++ r) w := by
  have hsv := hr.1
  obtain ⟨p, cap, rfl, _⟩ := hsv
  have sv := hr.1
  obtain ⟨v, hv⟩ : ∃ v, v = (.slice p l.length cap : Value) := ⟨_, rfl⟩
  refine Seq.enterK (Bx := [(b, ob [.slice p l.length cap] 22)]) Try.func42 Try.ntmps42 rfl rfl (by simp [keys]) (by simpa using hb) (by simpa using hBk) (fun l' J Jx W hit h0 hK0 => ?_)
  have r0 : Rd W [b] (.slice p l.length cap) l.length (l.flatMap Ln.vs) := hr.kept (fun _ o ho => hK0 _ o ho) (fun hn hm => (hr.2 hn).2.1 (by rw [List.mem_singleton.1 hm]; exact hbA))
  repeat (first | refine Af ?_ | refine Ac ?_ | refine Aa ?_ | refine Ae ?_ | refine Ad ?_ | refine Ak 0 ?_ | refine L.lenV (c := ?_) | refine Ai ?_ | refine Az sv ?_)
  refine C.loopS (α := List (Nat × Ln) × World) (fun x => Jb J [(b, ob [.slice p l.length cap] 22)] x.1 x.2 ∧ (∃ r, l = x.1.map (·.2) ++ r) ∧ Rd x.2 [b] (.slice p l.length cap) l.length (l.flatMap Ln.vs))
    (fun x => { w0 := x.2, A := keys [(b, ob [.slice p l.length cap] 22)], n := 25 }) (fun x => [(0, .func (.yield l') #[] #[]), (1, .pointer (some ⟨b, 0, none⟩)), (6, .slice p l.length cap), (7, .int .i64 l.length), (8, .int .i64 x.1.length)])
    (fun _ => [(b, ob [.slice p l.length cap] 22)]) (fun x => l.length - x.1.length) ([], W) (fun _ => rfl)
    (fun a w hs => hs.less (is := [0]) (by decide) rfl (lk_cons rfl (lk_cons rfl (lk_cons rfl (lk_cons rfl (lk_cons rfl (fun _ _ h => lk_nil h))))))) ⟨h0, ⟨l, rfl⟩, r0⟩ ?_
  rintro ⟨pre, V⟩ ⟨hJ, ⟨r, hlr⟩, hR⟩
  simp only at hJ hlr hR ⊢
  have hlen := congrArg List.length hlr
  simp only [List.length_append, List.length_map] at hlen
  rcases r with _ | ⟨y, r⟩
  · have c1 : cm .lss (pre.length : Int) l.length = false := cm_lo' (by simp at hlen; omega)
    repeat (first | refine Af ?_ | refine Ac ?_ | refine Aa ?_ | refine Ae ?_ | refine Ah ?_ | refine Aj ?_ | refine C.exit ?_ | refine Bg ?_ | refine Bh ?_)
    exact D.fin (vs := []) RV.nil (fun w1 hw => ⟨⟨_, rfl⟩, .inl ⟨_, by rw [hlr, List.append_nil], hit.sj _ _ _ hJ.1 (hw.keeps0 hJ.2 (is := [0]) rfl rfl)⟩⟩)
  · simp only [List.length_cons] at hlen
    have c1 : cm .lss (pre.length : Int) l.length = true := cm_lo (by omega)
    have hlt : pre.length < l.length := by omega
    have hy : l[pre.length]? = some y := by rw [hlr, List.getElem?_append_right (by simp)]; simp
    have hyo := hok y (List.mem_of_getElem? hy)
    have oL := hR.2 (by omega)
    obtain ⟨kc, kl⟩ := ln_at hy
    have c2 : ar .add .i64 (pre.length : Int) 1 = ((pre.length + 1 : Nat) : Int) := wrap_nat (by omega)
    have hS := esize_S y.ins hyo.2.1
    unfold insV at hS
    have key : (cm .eql y.lab 0 = true ∧ y.size = y.ins.out.size) ∨ (cm .eql y.lab 0 = false ∧ y.size = 0) := by
      by_cases h : y.lab = 0
      · exact .inl ⟨cm_yes h, if_pos h⟩
      · exact .inr ⟨cm_no h, if_neg h⟩
    rcases key with ⟨c3, hz⟩ | ⟨c3, hz⟩
    all_goals repeat (first | refine Af ?_ | refine Ac ?_ | refine Aa ?_ | refine Ae ?_ | refine Ad ?_ | refine Ag ?_ | refine Ah ?_ | refine Ay ?_ | refine Ak 0 ?_ | refine Al 0 ?_ | refine Ab 0 ?_ | refine Aq (fun _ => ?_) | refine Am ?_ | refine Aj ?_ | refine Ai ?_ | refine Ap ?_ | refine Ba sv hlt ?_ | refine L.loadOA oL (i := pre.length * 11) (ho := by exact rfl) (hi := kl) (hcs := kc) (c := ?_) | refine Au (hS) ?_)
    all_goals
      refine L.yieldK hit (pre.length, y) [1] hJ ⟨rfl, r, hlr⟩ (by exact rfl) (by exact rfl) (by exact rfl) (by simp only [encN, hz] <;> rfl) (by exact rfl) (by exact rfl) (fun W' hJ' hK => ?_) (fun W' hJ' => ?_)
    all_goals repeat (first | refine Ac ?_ | refine Aa ?_ | refine Ad ?_ | refine Ao ?_ | refine Am ?_ | refine Aj ?_ | refine L.not (c := ?_) | refine Ar ?_ | refine An ?_ | refine Av ?_ | refine Bb ?_ | refine Ap ?_ | refine Bc ?_)
    all_goals first
      | (refine D.then_ fun a1 w1 hs => ⟨(pre ++ [(pre.length, y)], W'), ⟨hJ', ⟨r, by rw [hlr]; simp⟩, hR.kept (fun hn o ho => hK _ o (by have := (hr.2 hn).1; exact this) (fun hm => (hr.2 hn).2.1 (hA _ hm)) (by simpa [keys] using fun e => (hr.2 hn).2.1 (by rw [e]; exact hbA)) ho) (fun hn => (hR.2 hn).2.1)⟩, by show l.length - (pre ++ [(pre.length, y)]).length < l.length - pre.length; rw [List.length_append]; simp; omega, ?_⟩
         have e : ((pre ++ [(pre.length, y)]).length : Int) = ((pre.length + 1 : Nat) : Int) := by simp
         simp only [e]
         exact hs.less (is := [0]) (by decide) rfl (lk_cons rfl (lk_cons rfl (lk_cons rfl (lk_cons rfl (lk_cons rfl (fun _ _ h => lk_nil h)))))))
      | exact D.ret (vs := []) RV.nil (fun w1 hw => ⟨⟨_, rfl⟩, .inr ⟨_, ⟨r, by rw [hlr]; simp⟩, hit.sx _ _ _ hJ' (At.keeps hw)⟩⟩)
end Go.Proofs.Ytbcaelhchmoigaa.Ly
