import Derived.Test.YtbcaelhchmoigaaSepV
import Derived.Lib.AppendStr
import Derived.Lib.AppendZeros
import Derived.Laws.OwnMore
set_option linter.unusedVariables false
set_option linter.unusedSimpArgs false
namespace Go.Proofs.Ytbcaelhchmoigaa.SL
open Go Go.RowKit
abbrev OS := Option (Nat × List Value × Nat)
def osV (m : Nat) : OS → Value
  | none => .slice none 0 0
  | some (b, _, cap) => .slice (some ⟨b, 0, none⟩) m cap
def osC (T : Nat) : OS → Hp → Hp
  | none, r => r
  | some (b, l, _), r => (b, ob l T) :: r
def osG (n m : Nat) (cs : List Value) : OS → Prop
  | none => m = 0 ∧ cs = []
  | some (_, l, cap) => l.length = cap * n ∧ m ≤ cap ∧ cap ≤ maxLen ∧ l.take (m * n) = cs
theorem osV_cells (m : Nat) (y : OS) : (osV m y).cells = [osV m y].toArray := by rcases y with _ | ⟨b, l, cap⟩ <;> rfl
theorem osV_one (m : Nat) (y : OS) : [osV m y].all oneB = true := by rcases y with _ | ⟨b, l, cap⟩ <;> rfl
theorem osG.len {n m : Nat} {cs : List Value} {y : OS} (h : osG n m cs y) : cs.length = m * n := by
  rcases y with _ | ⟨b, l, cap⟩
  · obtain ⟨rfl, rfl⟩ := h; simp
  · obtain ⟨h1, h2, h3, rfl⟩ := h
    rw [List.length_take, h1]; exact Nat.min_eq_left (Nat.mul_le_mul_right _ h2)
theorem osG.nil {n : Nat} : osG n 0 [] none := ⟨rfl, rfl⟩
section
variable {P : Program} {ops : Array Oper} {Q : Exit → Act → World → Prop} {s : St} {E : Env} {M : Hp} {rest : List Oper} {d t : Nat} {pos : String} {af : Array Edge}
theorem At.perm {w0 w : World} {A : List Nat} {M M' : Hp} (h : At w0 A M w) (hp : M'.Perm M) : At w0 A M' w :=
  ⟨h.keeps, (hp.map _).nodup_iff.2 h.nodup, fun x hx => h.mine x (hp.mem_iff.1 hx), fun x hx => h.holds x (hp.mem_iff.1 hx)⟩
theorem osG.left {n m T : Nat} {cs : List Value} {y : OS} {M' : Hp} {w0 w : World} {A : List Nat} (h : osG n m cs y) (hw : At w0 A (osC T y [] ++ M') w) : Rd w (keys M') (osV m y) m cs := by
  rcases y with _ | ⟨b, l, cap⟩
  · obtain ⟨rfl, rfl⟩ := h; exact Rd.nil
  · obtain ⟨h1, h2, h3, h4⟩ := h
    exact hw.left (b := b) (l := l) (T := T) List.mem_cons_self h2 _ h4
theorem append_none {T dd e n bs : Nat} {m : Nat} {y : OS} {w : World} {cs : List Value} {c : Nat} [hT : Und P T (.slice e)] [hR : Row P e n bs] (hG : osG n m cs y) :
    (Builtin.append_ #[T, T] dd #[osV m y, .slice none 0 c]).run P w = .ok (osV m y) w := by
  obtain ⟨ti, z, r1, r2, r3, r4, r5, r6⟩ := hR.out
  rcases y with _ | ⟨b, l, cap⟩
  · simp [osV, Builtin.append_, run_underlying hT.out, sizeOf, typeInfo, r1, Builtin.lenOf, Builtin.firstCells]
  · obtain ⟨h1, h2, h3, h4⟩ := hG
    simp [osV, Builtin.append_, run_underlying hT.out, sizeOf, typeInfo, r1, Builtin.lenOf, Builtin.firstCells, h2, storeCells]
theorem own_row {n m e : Nat} {cs : List Value} {y : OS} {L1 L2 : Hp} {w0 w : World} {A : List Nat} (h : osG n m cs y) (hw : At w0 A (L1 ++ osC e y L2) w) : w.ownsRow 0 e n (osV m y) m cs := by
  rcases y with _ | ⟨b, l, cap⟩
  · obtain ⟨rfl, rfl⟩ := h; exact World.ownsRow_nil w 0 e n
  · have hl := h.len
    obtain ⟨h1, h2, h3, h4⟩ := h
    exact ⟨hl, .inr ⟨b, cap, l.toArray, rfl, Nat.zero_le _, hw.holds (b, ob l e) (List.mem_append_right _ List.mem_cons_self), h2, h3, by simpa using h1, h4⟩⟩
theorem hat_app : ∀ (L1 : Hp) (x : Nat × Obj) (L2 : Hp), hat (L1 ++ x :: L2) L1.length = some x
  | [], _, _ => rfl
  | _ :: r, x, L2 => hat_app r x L2
theorem hrep_app : ∀ (L1 : Hp) (x y : Nat × Obj) (L2 : Hp), hrep (L1 ++ x :: L2) L1.length y = L1 ++ y :: L2
  | [], _, _, _ => rfl
  | z :: r, x, y, L2 => by simp only [List.cons_append, List.length_cons, hrep]; rw [hrep_app r x y L2]
theorem At.grow {e n m m' : Nat} {cs cs' : List Value} {y : OS} {L1 L2 : Hp} {w0 w w' : World} {A : List Nat} {v' : Value} (hG : osG n m cs y) (hw : At w0 A (L1 ++ osC e y L2) w) (ho : w'.ownsRow 0 e n v' m' cs') (hg : w.grownBy w' (osV m y).ownBlock)
    (hat' : v'.ownBlock = (osV m y).ownBlock ∨ v'.ownBlock = some w.heap.size) (hnil : v' = .slice none 0 0 → y = none) : ∃ y', v' = osV m' y' ∧ osG n m' cs' y' ∧ At w0 A (L1 ++ osC e y' L2) w' := by
  obtain ⟨hl, ho⟩ := ho
  rcases ho with ⟨rfl, rfl⟩ | ⟨g, cap', cur, rfl, _, hgc, hle, hmx, hsz, htk⟩
  · obtain rfl := hnil rfl
    refine ⟨none, rfl, ⟨rfl, List.eq_nil_of_length_eq_zero (by simpa using hl)⟩, hw.other hg (fun k e => by cases e)⟩
  · refine ⟨some (g, cur.toList, cap'), rfl, ⟨by simpa using hsz, hle, hmx, htk⟩, ?_⟩
    rcases y with _ | ⟨b, l, cap⟩
    · have hg' : g = w.heap.size := by simpa [Value.ownBlock, osV] using hat'
      have := hw.fresh hg (b := g) (o := ob cur.toList e) (by simpa using hgc) (by omega)
      refine this.perm ?_
      show (L1 ++ (g, ob cur.toList e) :: L2).Perm ((g, ob cur.toList e) :: (L1 ++ L2))
      exact List.perm_middle
    · have hg' : g = b ∨ g = w.heap.size := by simpa [Value.ownBlock, osV] using hat'
      have := At.rep (o' := ob cur.toList e) hw (hat_app L1 (b, ob l e) L2) hg (by simpa using hgc) hg'
      rw [show L1 ++ osC e (some (b, l, cap)) L2 = L1 ++ (b, ob l e) :: L2 from rfl, hrep_app] at this
      exact this
theorem L.appendU (L1 : Hp) {T e n bs m k : Nat} {cs news : List Value} {y : OS} {L2 : Hp} {u : Value} {x z : Operand} [hT : Und P T (.slice e)] [hR : Row P e n bs] (hG : osG n m cs y) (hM : M = L1 ++ osC e y L2)
    (hu : ∀ w, At s.w0 s.A M w → Rd w [] u k news) (hnl : news.length = k * n) (h1 : ones news) (h63 : m + k ≤ maxLen) (hb : (m + k) * bs ≤ 140737488355328)
    (hd : Nat.blt d s.n = true := by exact rfl) (hx : ev E x = some (osV m y) := by exact rfl) (hz : ev E z = some u := by exact rfl)
    (c : ∀ y', osG n (m + k) (cs ++ news) y' → (y' = none ↔ y = none ∧ k = 0 ∧ m = 0) → L P ops Q rest s ((d, osV (m + k) y') :: E) (L1 ++ osC e y' L2)) :
    L P ops Q (⟨some d, .call { callee := .builtin .append, args := #[x, z], argTypes := #[T, T] }, t, pos, af, none⟩ :: rest) s E M := by
  intro a w hs
  obtain ⟨⟨p, cap, rfl, hkc, hp⟩, hold⟩ := hu w hs.at_
  obtain ⟨ti, zz, r1, r2, r3, r4, r5, r6⟩ := hR.out
  have hat0 := hs.at_
  rw [hM] at hat0
  refine wpListIn_plain rfl fun K hK => ⟨fun _ _ => trivial, ?_⟩
  rw [Oper.semAt_eq _ _ _ (by intro c h; cases h)]
  rcases p with _ | ad
  · have hk0 : k = 0 := by
      rcases Nat.eq_zero_or_pos k with h | h
      · exact h
      · exact absurd (hp h) (by simp)
    subst hk0
    have hn0 : news = [] := List.eq_nil_of_length_eq_zero (by simpa using hnl)
    subst hn0
    rw [append_run hs hx hz (append_none hG)]
    have := c y (by simpa using hG) ⟨fun h => ⟨h, rfl, by subst h; exact hG.1⟩, fun h => h.1⟩
    exact hK _ _ (this _ _ (hs.put hd _ hat0))
  · have hnews : ∀ j u, news[j]? = some u → w.cell? (ad.add j) = some u := by
      intro j u hj
      rcases Nat.eq_zero_or_pos k with h | h
      · subst h
        have hn0 : news = [] := List.eq_nil_of_length_eq_zero (by simpa using hnl)
        subst hn0; simp at hj
      · have h2 := hold h
        have h3 := hp h
        simp only [Option.some.injEq] at h3
        rw [h3, add_at]
        exact h2.2.2 j u hj
    obtain ⟨v', w', hr, ho, hg, hnil, hat'⟩ := run_append_own_at (P := P) w 0 T t e ti zz n bs hT.out r1 r2 r3 r4 r5 r6 _ m _ (own_row hG hat0) ad k cap news hnl hnews h1 h63 hb (Nat.zero_le _)
    rw [append_run hs hx hz hr]
    have hyn : osV m y = .slice none 0 0 → y = none := fun h => by
      rcases y with _ | ⟨b, l, cap⟩
      · rfl
      · simp [osV] at h
    obtain ⟨y', rfl, hG', hw'⟩ := At.grow hG hat0 ho hg hat' (fun e => hyn (hnil.1 e).1)
    refine hK _ _ (c y' hG' ⟨fun h => ?_, fun h => ?_⟩ _ _ (hs.put hd _ hw'))
    · subst h
      have hm0 := hG'.1
      rw [hm0] at hnil
      have := hnil.1 rfl
      exact ⟨hyn this.1, this.2, by omega⟩
    · obtain ⟨rfl, h0, h1⟩ := h
      have := hnil.2 ⟨rfl, h0⟩
      rcases y' with _ | ⟨b', l', cap'⟩
      · rfl
      · simp [osV] at this
end
end Go.Proofs.Ytbcaelhchmoigaa.SL
