/- The separation logic's rules for append: of a slice of another type's name; of so many noughts (append(s, make([]T, n)...)). No program in sight. -/
import Derived.Test.YtpemoeincepilaaDoorSepGZ
import Derived.Test.YtpemoeincepilaaDoorSepX
set_option linter.unusedVariables false
set_option linter.unusedSimpArgs false
namespace Go.Proofs.YtpemoeincepilaaDoor.SL
open Go Go.RowKit
section
variable {P : Program} {ops : Array Oper} {Q : Exit → Act → World → Prop} {s : St} {E : Env} {M : Hp} {rest : List Oper} {d t : Nat} {pos : String} {af : Array Edge}

theorem append_tt {T T' e e' dd : Nat} (hT : P.underlying T = some (.slice e)) (hT' : P.underlying T' = some (.slice e')) (v x : Value) (w : World) :
    (Builtin.append_ #[T, T'] dd #[v, x]).run P w = (Builtin.append_ #[T, T] dd #[v, x]).run P w := by
  cases v <;> simp [Builtin.append_, run_underlying hT, run_underlying hT']
/-- append onto a slice of one's own; the types have different names. -/
theorem L.appendT (L1 : Hp) {T T' e e' n bs m k : Nat} {cs news : List Value} {y : OS} {L2 : Hp} {u : Value} {x z : Operand} [hT : Und P T (.slice e)] [hT' : Und P T' (.slice e')] [hR : Row P e n bs] (hG : osG n m cs y) (hM : M = L1 ++ osC e y L2)
    (hu : ∀ w, At s.w0 s.A M w → Rd w [] u k news) (hnl : news.length = k * n) (h1 : ones news) (h63 : m + k ≤ maxLen) (hb : (m + k) * bs ≤ 140737488355328)
    (hd : Nat.blt d s.n = true := by exact rfl) (hx : ev E x = some (osV m y) := by exact rfl) (hz : ev E z = some u := by exact rfl)
    (c : ∀ y', osG n (m + k) (cs ++ news) y' → (y' = none ↔ y = none ∧ k = 0 ∧ m = 0) → L P ops Q rest s ((d, osV (m + k) y') :: E) (L1 ++ osC e y' L2)) :
    L P ops Q (⟨some d, .call { callee := .builtin .append, args := #[x, z], argTypes := #[T, T'] }, t, pos, af, none⟩ :: rest) s E M := by
  intro a w hs
  obtain ⟨⟨p, cap, rfl, hkc, hp⟩, hold⟩ := hu w hs.at_
  obtain ⟨ti, zz, r1, r2, r3, r4, r5, r6⟩ := hR.out
  have hat0 := hs.at_
  rw [hM] at hat0
  refine wpListIn_plain rfl fun K hK => ⟨fun _ _ => trivial, ?_⟩
  rw [Oper.semAt_eq _ _ _ (by intro c h; cases h)]
  rcases p with _ | ad
  · have hk0 : k = 0 := by
      rcases Nat.eq_zero_or_pos k with h | h
      · exact h
      · exact absurd (hp h) (by simp)
    subst hk0
    have hn0 : news = [] := List.eq_nil_of_length_eq_zero (by simpa using hnl)
    subst hn0
    rw [append_run2 hs hx hz ((append_tt hT.out hT'.out _ _ _).trans (append_none hG))]
    have := c y (by simpa using hG) ⟨fun h => ⟨h, rfl, by subst h; exact hG.1⟩, fun h => h.1⟩
    exact hK _ _ (this _ _ (hs.put hd _ hat0))
  · have hnews : ∀ j u, news[j]? = some u → w.cell? (ad.add j) = some u := by
      intro j u hj
      rcases Nat.eq_zero_or_pos k with h | h
      · subst h
        have hn0 : news = [] := List.eq_nil_of_length_eq_zero (by simpa using hnl)
        subst hn0; simp at hj
      · have h2 := hold h
        have h3 := hp h
        simp only [Option.some.injEq] at h3
        rw [h3, add_at]
        exact h2.2.2 j u hj
    obtain ⟨v', w', hr, ho, hg, hnil, hat'⟩ := run_append_own_at (P := P) w 0 T t e ti zz n bs hT.out r1 r2 r3 r4 r5 r6 _ m _ (own_row hG hat0) ad k cap news hnl hnews h1 h63 hb (Nat.zero_le _)
    rw [append_run2 hs hx hz ((append_tt hT.out hT'.out _ _ _).trans hr)]
    have hyn : osV m y = .slice none 0 0 → y = none := fun h => by
      rcases y with _ | ⟨b, l, cap⟩
      · rfl
      · simp [osV] at h
    obtain ⟨y', rfl, hG', hw'⟩ := At.grow hG hat0 ho hg hat' (fun e => hyn (hnil.1 e).1)
    refine hK _ _ (c y' hG' ⟨fun h => ?_, fun h => ?_⟩ _ _ (hs.put hd _ hw'))
    · subst h
      have hm0 := hG'.1
      rw [hm0] at hnil
      have := hnil.1 rfl
      exact ⟨hyn this.1, this.2, by omega⟩
    · obtain ⟨rfl, h0, h1⟩ := h
      subst h0; subst h1
      have := hnil.2 ⟨rfl, rfl⟩
      rcases y' with _ | ⟨b, l, cap⟩
      · rfl
      · simp [osV] at this
theorem zc_one (z : Value) (n : Nat) : Builtin.zeroCells #[z] n = (List.replicate n z).toArray := by
  apply Array.ext
  · simp [Builtin.zeroCells]
  · intro i h1 h2
    simp [Builtin.zeroCells, Nat.mod_one]
/-- append(s, make([]T, m)...). -/
theorem run_append_zeros {T tn ty e : TypeId} {i : TypeInfo} {z : Value} {kn k : IntKind} (w : World) (ht : P.underlying T = some (.slice e)) (htn : P.underlying tn = some (.int kn)) (hi : P.info? e = some i) (hz : i.zero = some z)
    (hsize : i.size = 1) {bs : Nat} (hby : i.bytes = bs) (hzs : z.cells = #[z]) (h1z : z.oneCell' = true)
    (v : Value) (n : Nat) (xs : List Value) (hown : w.ownsRow 0 e 1 v n xs) (m : Nat) (h63 : n + m ≤ 1000000000000) (hb0 : bs ≤ 100) :
    ∃ v' w', (Builtin.append_ #[T, tn] ty #[v, .int k m]).run P w = .ok v' w' ∧ w'.ownsRow 0 e 1 v' (n + m) (xs ++ List.replicate m z) ∧ w.grownBy w' v.ownBlock ∧
      (v' = .slice none 0 0 ↔ v = .slice none 0 0 ∧ m = 0) ∧ (v'.ownBlock = v.ownBlock ∨ v'.ownBlock = some w.heap.size) := by
  have hmm : maxLen = 9223372036854775807 := rfl
  have hbm : ∀ q, q ≤ 1000000000000 → q * i.bytes ≤ 140737488355328 := fun q hq => by
    have h1 := Nat.mul_le_mul hq (show i.bytes ≤ 100 by omega)
    omega
  have hlen : (xs ++ List.replicate m z).length = (n + m) * 1 := by rw [List.length_append, hown.1, List.length_replicate]; omega
  have grown : ∀ (old : Nat), old < n + m → ∀ (row : Option Nat),
      (w.drew.alloc (.cells (xs.toArray ++ (List.replicate m z).toArray ++ Builtin.zeroCells z.cells (grownCap w (n + m) old e - (n + m))) e)).ownsRow 0 e 1
        (.slice (some ⟨w.heap.size, 0, none⟩) (n + m) (grownCap w (n + m) old e)) (n + m) (xs ++ List.replicate m z) ∧
      w.grownBy (w.drew.alloc (.cells (xs.toArray ++ (List.replicate m z).toArray ++ Builtin.zeroCells z.cells (grownCap w (n + m) old e - (n + m))) e)) row := by
    intro old ho row
    have hge := grownCap_ge w (n + m) old e
    have hcm : grownCap w (n + m) old e ≤ maxLen := grownCap_le_maxLen w (n + m) old e (by omega)
    refine ⟨⟨hlen, .inr ⟨w.heap.size, _, _, rfl, Nat.zero_le _, heap_alloc_new w.drew _, hge, hcm, ?_, ?_⟩⟩, ⟨rfl, rfl, rfl, by simp, fun k hk _ => Go.heap_alloc_old w.drew _ hk⟩⟩
    · simp only [Array.size_append, List.size_toArray, size_zeroCells, hzs, hown.1, List.length_replicate]
      simp
      omega
    · simp only [Array.toList_append, List.append_assoc]
      rw [← List.append_assoc, ← hlen]
      exact List.take_left
  have hw : IntKind.i64.wrap (m : Int) = m := by rw [IntKind.wrap_i64]; omega
  have hneg : ¬ ((m : Int) < 0) := by omega
  have hw0 : IntKind.i64.wrap 0 = 0 := by rw [IntKind.wrap_i64]; rfl
  have h48i : ¬ (281474976710656 < (m : Int) * (i.bytes : Int)) := by
    have := hbm m (by omega)
    rw [← Int.natCast_mul]; omega
  rcases hown.2 with ⟨rfl, rfl⟩ | ⟨g, cap, cur, rfl, hbg, hg, hnc, hcm, hcs, htake⟩
  · have hx : xs = [] := List.eq_nil_of_length_eq_zero (by simpa using hown.1)
    subst hx
    by_cases hm : m = 0
    · subst hm
      refine ⟨.slice none 0 0, w, ?_, World.ownsRow_nil w 0 e 1, ⟨rfl, rfl, rfl, Nat.le_refl _, fun _ _ _ => rfl⟩, by simp, Or.inl rfl⟩
      simp [Builtin.append_, run_underlying ht, run_underlying htn, sizeOf, typeInfo, hi, asInt, asIntOf, hw0]
    · have hr := Lib.run_append_nil_zeros (P := P) w T tn ty e i z k kn ht htn hi hz m (by omega) (by omega) (by omega) (by have := hbm m (by omega); omega)
      have hgr := grown 0 (by omega) (Value.ownBlock (.slice none 0 0))
      simp only [Nat.zero_add, List.nil_append] at hgr ⊢
      rw [hzs] at hr hgr
      exact ⟨_, _, hr, by simpa [zc_one] using hgr.1, by simpa [zc_one] using hgr.2, by simp [hm], Or.inr rfl⟩
  · by_cases hroom : n + m ≤ cap
    · have hst := run_storeCells_at P g n e (List.replicate m z) 0 cur w hg (by simp; omega) (fun u hu => by rw [List.eq_of_mem_replicate hu]; exact h1z)
      simp only [Nat.add_zero] at hst
      refine ⟨.slice (some ⟨g, 0, none⟩) (n + m) cap, w.setRow g (cur.toList.take n ++ List.replicate m z ++ cur.toList.drop (n + m)).toArray, ?_, ⟨hlen, .inr ⟨g, cap, _, rfl, hbg, setRow_heap w g cur _ e _ hg, hroom, hcm, ?_, ?_⟩⟩, ⟨rfl, rfl, rfl, by simp, fun k _ hk => setRow_other w g k _ (fun e => hk (by simp [Value.ownBlock, e]))⟩, by simp, Or.inl rfl⟩
      · have hst2 : Sem.run P (storeCells ⟨g, n, none⟩ (List.replicate m z)) w = .ok () (w.setRow g (cur.toList.take n ++ List.replicate m z ++ cur.toList.drop (n + m)).toArray) := by simpa using hst
        by_cases hm0 : m = 0
        · subst hm0
          rw [show List.replicate 0 z = [] from rfl] at hst2 ⊢
          simp only [Nat.add_zero, List.append_nil] at hst2
          simp [Builtin.append_, run_underlying ht, run_underlying htn, sizeOf, typeInfo, hi, asInt, asIntOf, hw0, hnc, hsize, Addr.add_lit, hst2]
        · simp [Builtin.append_, run_underlying ht, run_underlying htn, sizeOf, typeInfo, zeroValue, hi, hz, asInt, asIntOf, hw, hneg, h48i, hroom, hsize, hzs, zc_one, Addr.add_lit, hm0]
          rw [hst2]
          simp
      · simp only [List.size_toArray, List.length_append, List.length_take, List.length_drop, Array.length_toList, List.length_replicate]
        omega
      · rw [Nat.mul_one] at htake
        rw [htake, ← hlen]
        exact List.take_left
    · have holds : ∀ j u, xs[j]? = some u → w.cell? ((⟨g, 0, none⟩ : Addr).add j) = some u := hown.cells (g := g) rfl
      have hfo := run_firstCells_some (P := P) w.drew i.size n ⟨g, 0, none⟩ n cap xs (by rw [hsize]; exact hown.1) (by simpa using holds)
      rw [hsize] at hfo
      have h63' : ¬ (9223372036854775807 < ((n : Int) + (m : Int))) := by omega
      have h48' : ¬ (281474976710656 < Builtin.nextslicecap (n + m) cap * i.bytes) := by
        have := growslice_fits (show cap < n + m by omega) (hbm _ h63)
        omega
      have hm0 : ¬ m = 0 := by omega
      have hgr := grown cap (by omega) (Value.ownBlock (.slice (some ⟨g, 0, none⟩) n cap))
      refine ⟨.slice (some ⟨w.heap.size, 0, none⟩) (n + m) (grownCap w (n + m) cap e), _, ?_, hgr.1, hgr.2, by simp, Or.inr rfl⟩
      simp [Builtin.append_, run_underlying ht, run_underlying htn, sizeOf, typeInfo, zeroValue, hi, hz, asInt, asIntOf, hw, hneg, h48i, hroom, hsize, hzs, h63', h48', zc_one, Question.forced, hfo, hm0, newRow, grownCap]
theorem L.appendZ (L1 : Hp) {T tn e bs m k : Nat} {z : Value} {q q' : IntKind} {cs : List Value} {y : OS} {L2 : Hp} {x o : Operand} {i : Int} [hT : Und P T (.slice e)] [hT' : Und P tn (.int q')] [hR : Row P e 1 bs] [hz : Zer P e z [z]] (hG : osG 1 m cs y) (hM : M = L1 ++ osC e y L2)
    (hi : i = (k : Int)) (h63 : m + k ≤ 1000000000000) (hb : bs ≤ 100) (hz1 : oneB z = true := by exact rfl)
    (hd : Nat.blt d s.n = true := by exact rfl) (hx : ev E x = some (osV m y) := by exact rfl) (ho : ev E o = some (.int q i) := by exact rfl)
    (c : ∀ y', osG 1 (m + k) (cs ++ List.replicate k z) y' → (y' = none ↔ y = none ∧ k = 0 ∧ m = 0) → L P ops Q rest s ((d, osV (m + k) y') :: E) (L1 ++ osC e y' L2)) :
    L P ops Q (⟨some d, .call { callee := .builtin .append, args := #[x, o], argTypes := #[T, tn] }, t, pos, af, none⟩ :: rest) s E M := by
  subst hi
  intro a w hs
  obtain ⟨ti, zz, r1, r2, r3, r4, r5, r6⟩ := hR.out
  have hzc : z.cells = #[z] := hz.cells
  have hzz : zz = z := by
    have := hz.out
    rw [r1] at this
    simp only [Option.bind_some, r2] at this
    cases this; rfl
  subst hzz
  have hat0 := hs.at_
  rw [hM] at hat0
  refine wpListIn_plain rfl fun K hK => ⟨fun _ _ => trivial, ?_⟩
  rw [Oper.semAt_eq _ _ _ (by intro c h; cases h)]
  obtain ⟨v', w', hr, ho', hg, hnil, hat'⟩ := run_append_zeros (P := P) (ty := t) (k := q) w hT.out hT'.out r1 r2 r3 r4 hzc hz1 _ m _ (own_row hG hat0) k h63 hb
  rw [append_run2 hs hx ho hr]
  have hyn : osV m y = .slice none 0 0 → y = none := fun h => by
    rcases y with _ | ⟨b, l, cap⟩
    · rfl
    · simp [osV] at h
  obtain ⟨y', rfl, hG', hw'⟩ := At.grow hG hat0 ho' hg hat' (fun e => hyn (hnil.1 e).1)
  refine hK _ _ (c y' hG' ⟨fun h => ?_, fun h => ?_⟩ _ _ (hs.put hd _ hw'))
  · subst h
    have hm0 := hG'.1
    rw [hm0] at hnil
    have := hnil.1 rfl
    exact ⟨hyn this.1, this.2, by omega⟩
  · obtain ⟨rfl, h0, h1⟩ := h
    subst h0; subst h1
    have := hnil.2 ⟨rfl, rfl⟩
    rcases y' with _ | ⟨b, l, cap⟩
    · rfl
    · simp [osV] at this
end
end Go.Proofs.YtpemoeincepilaaDoor.SL
