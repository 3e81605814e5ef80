/- Plain: naturals of limbs: their values, the trimmed limbs of a number, sums, differences, products limb by limb. -/
import Derived.Test.YtpemoeincepilaaDoorProg
set_option linter.unusedVariables false
set_option linter.unusedSimpArgs false
namespace Go.Proofs.YtpemoeincepilaaDoor.Nt

/-- The number of limbs. -/
def lv : List Nat → Nat
  | [] => 0
  | x :: r => x + 18446744073709551616 * lv r
def okL (l : List Nat) : Prop := ∀ x ∈ l, x < 18446744073709551616
/-- The trimmed limbs of a number. -/
def can (n : Nat) : List Nat := if h : n = 0 then [] else (n % 18446744073709551616) :: can (n / 18446744073709551616)
termination_by n
decreasing_by omega
theorem can_zero : can 0 = [] := by rw [can]; rfl
theorem can_pos {n : Nat} (h : n ≠ 0) : can n = (n % 18446744073709551616) :: can (n / 18446744073709551616) := by rw [can, dif_neg h]
theorem lv_can (n : Nat) : lv (can n) = n := by
  induction n using Nat.strongRecOn with
  | ind n ih =>
    by_cases h : n = 0
    · subst h; rw [can_zero]; rfl
    · rw [can_pos h, lv, ih _ (by omega)]; omega
theorem can_ok (n : Nat) : okL (can n) := by
  induction n using Nat.strongRecOn with
  | ind n ih =>
    by_cases h : n = 0
    · subst h; rw [can_zero]; intro x hx; cases hx
    · rw [can_pos h]
      intro x hx
      rcases List.mem_cons.1 hx with rfl | hx
      · omega
      · exact ih _ (by omega) x hx
/-- No nought stands at the end. -/
def trm (l : List Nat) : Prop := ∀ x, l.getLast? = some x → x ≠ 0
theorem can_trm (n : Nat) : trm (can n) := by
  induction n using Nat.strongRecOn with
  | ind n ih =>
    by_cases h : n = 0
    · subst h; rw [can_zero]; intro x hx; cases hx
    · have hi := ih (n / 18446744073709551616) (by omega)
      rw [can_pos h]
      by_cases h2 : n / 18446744073709551616 = 0
      · rw [h2, can_zero]
        intro x hx
        simp at hx; omega
      · rw [can_pos h2] at hi ⊢
        intro x hx
        rw [List.getLast?_cons_cons] at hx
        exact hi x hx
theorem can_lv : ∀ {l : List Nat}, okL l → trm l → can (lv l) = l
  | [], _, _ => can_zero
  | x :: r, ho, ht => by
    have hx := ho x List.mem_cons_self
    have hr : okL r := fun y hy => ho y (List.mem_cons_of_mem _ hy)
    have htr : trm r := by
      intro y hy
      cases r with
      | nil => cases hy
      | cons z t => exact ht y (by rw [List.getLast?_cons_cons]; exact hy)
    have ih := can_lv hr htr
    by_cases h : lv (x :: r) = 0
    · unfold lv at h
      have h1 : lv r = 0 := by omega
      rw [h1, can_zero] at ih
      subst ih
      exact absurd (by omega) (ht x rfl)
    · rw [can_pos h]
      unfold lv
      have e1 : (x + 18446744073709551616 * lv r) % 18446744073709551616 = x := by omega
      have e2 : (x + 18446744073709551616 * lv r) / 18446744073709551616 = lv r := by omega
      rw [e1, e2, ih]
theorem lv_app : ∀ (a b : List Nat), lv (a ++ b) = lv a + 18446744073709551616 ^ a.length * lv b
  | [], b => by simp [lv]
  | x :: a, b => by
    rw [List.cons_append, lv, lv, lv_app a b, List.length_cons, Nat.pow_succ]
    grind
theorem lv_snoc (a : List Nat) (x : Nat) : lv (a ++ [x]) = lv a + 18446744073709551616 ^ a.length * x := by rw [lv_app]; simp [lv]
theorem lv_lt : ∀ {l : List Nat}, okL l → lv l < 18446744073709551616 ^ l.length
  | [], _ => by simp [lv]
  | x :: r, ho => by
    have hx := ho x List.mem_cons_self
    have ih := lv_lt (l := r) (fun y hy => ho y (List.mem_cons_of_mem _ hy))
    rw [lv, List.length_cons, Nat.pow_succ]
    omega
theorem lv_zero : ∀ {l : List Nat}, (∀ x ∈ l, x = 0) → lv l = 0
  | [], _ => rfl
  | x :: r, h => by
    rw [lv, h x List.mem_cons_self, lv_zero (fun y hy => h y (List.mem_cons_of_mem _ hy))]
theorem okL_take {l : List Nat} (h : okL l) (n : Nat) : okL (l.take n) := fun x hx => h x (List.mem_of_mem_take hx)
theorem okL_drop {l : List Nat} (h : okL l) (n : Nat) : okL (l.drop n) := fun x hx => h x (List.mem_of_mem_drop hx)
theorem okL_app {a b : List Nat} (ha : okL a) (hb : okL b) : okL (a ++ b) := fun x hx => (List.mem_append.1 hx).elim (ha x) (hb x)
theorem okL_set {l : List Nat} (h : okL l) {n x : Nat} (hx : x < 18446744073709551616) : okL (l.set n x) := fun y hy => by
  rcases List.mem_or_eq_of_mem_set hy with h1 | rfl
  · exact h y h1
  · exact hx
theorem take_lv {l : List Nat} {n : Nat} (h0 : ∀ x ∈ l.drop n, x = 0) : lv (l.take n) = lv l := by
  conv => rhs; rw [← List.take_append_drop n l]
  rw [lv_app, lv_zero h0]; simp
/-- What is left when the noughts at the end are taken away. -/
theorem take_can {l : List Nat} {n : Nat} (ho : okL l) (hn : n ≤ l.length) (h0 : ∀ x ∈ l.drop n, x = 0) (h1 : n = 0 ∨ ∃ x, l[n - 1]? = some x ∧ x ≠ 0) : l.take n = can (lv l) := by
  rw [← take_lv h0]
  refine (can_lv (okL_take ho n) ?_).symm
  intro x hx
  rcases h1 with rfl | ⟨y, hy, hz⟩
  · simp at hx
  · have hn1 : n ≠ 0 := by
      rintro rfl
      simp at hx
    rw [List.getLast?_eq_getElem?, List.length_take, Nat.min_eq_left hn, List.getElem?_take_of_lt (by omega), hy] at hx
    cases hx; exact hz
/-- A limb; nought behind the end. -/
def lmb (l : List Nat) (i : Nat) : Nat := l.getD i 0
def lo (l : List Nat) (i : Nat) : Nat := lv (l.take i)
theorem lmb_get {l : List Nat} {i x : Nat} (h : l[i]? = some x) : lmb l i = x := by unfold lmb; rw [List.getD_eq_getElem?_getD, h]; rfl
theorem lmb_out {l : List Nat} {i : Nat} (h : l.length ≤ i) : lmb l i = 0 := by unfold lmb; rw [List.getD_eq_getElem?_getD, List.getElem?_eq_none h]; rfl
theorem lmb_lt {l : List Nat} (h : okL l) (i : Nat) : lmb l i < 18446744073709551616 := by
  rcases Nat.lt_or_ge i l.length with hi | hi
  · rw [lmb_get (List.getElem?_eq_getElem hi)]; exact h _ (List.getElem_mem hi)
  · rw [lmb_out hi]; omega
theorem lo_zero (l : List Nat) : lo l 0 = 0 := rfl
theorem lo_succ (l : List Nat) (i : Nat) : lo l (i + 1) = lo l i + 18446744073709551616 ^ i * lmb l i := by
  unfold lo
  rcases Nat.lt_or_ge i l.length with hi | hi
  · rw [List.take_add_one, List.getElem?_eq_getElem hi, lmb_get (List.getElem?_eq_getElem hi)]
    rw [show (some l[i]).toList = [l[i]] from rfl, lv_snoc, List.length_take, Nat.min_eq_left (by omega)]
  · rw [lmb_out hi, List.take_of_length_le hi, List.take_of_length_le (by omega)]; rfl
theorem lo_all {l : List Nat} {i : Nat} (h : l.length ≤ i) : lo l i = lv l := by unfold lo; rw [List.take_of_length_le h]
theorem lo_lt {l : List Nat} (h : okL l) (i : Nat) : lo l i < 18446744073709551616 ^ i := by
  induction i with
  | zero => rw [lo_zero]; simp
  | succ i ih =>
    rw [lo_succ, Nat.pow_succ]
    have := lmb_lt h i
    have h2 : 18446744073709551616 ^ i * lmb l i ≤ 18446744073709551616 ^ i * 18446744073709551615 := Nat.mul_le_mul_left _ (by omega)
    omega
theorem pow_posB (i : Nat) : 0 < 18446744073709551616 ^ i := Nat.pow_pos (by omega)
theorem can_len {n k : Nat} : (can n).length ≤ k ↔ n < 18446744073709551616 ^ k := by
  constructor
  · intro h
    have h1 := lv_lt (can_ok n)
    rw [lv_can] at h1
    exact Nat.lt_of_lt_of_le h1 (Nat.pow_le_pow_right (by omega) h)
  · intro h
    induction k generalizing n with
    | zero => 
      have : n = 0 := by simpa using h
      subst this; rw [can_zero]; simp
    | succ k ih =>
      by_cases h0 : n = 0
      · subst h0; rw [can_zero]; simp
      · rw [can_pos h0, List.length_cons]
        have : n / 18446744073709551616 < 18446744073709551616 ^ k := by
          rw [Nat.div_lt_iff_lt_mul (by omega), ← Nat.pow_succ]; exact h
        have := ih this
        omega

/-! Sums and differences, limb by limb -/
theorem add_step {a b o : List Nat} {i c s c' : Nat} (hl : o.length = i) (h : lv o + 18446744073709551616 ^ i * c = lo a i + lo b i) (hs : s + 18446744073709551616 * c' = lmb a i + lmb b i + c) :
    lv (o ++ [s]) + 18446744073709551616 ^ (i + 1) * c' = lo a (i + 1) + lo b (i + 1) := by
  subst hl
  rw [lv_snoc, lo_succ, lo_succ, Nat.pow_succ]
  generalize 18446744073709551616 ^ o.length = p at *
  have e : p * (s + 18446744073709551616 * c') = p * (lmb a o.length + lmb b o.length + c) := by rw [hs]
  simp only [Nat.mul_add] at e
  rw [Nat.mul_assoc]
  omega
theorem add_end {a b o : List Nat} {i c : Nat} (ha : okL a) (hb : okL b) (hl : o.length = i) (h : lv o + 18446744073709551616 ^ i * c = lo a i + lo b i) (hi : max a.length b.length < i) : lv o = lv a + lv b := by
  rw [lo_all (by omega), lo_all (by omega)] at h
  have h1 := lv_lt ha
  have h2 := lv_lt hb
  have h3 : 18446744073709551616 ^ a.length ≤ 18446744073709551616 ^ (i - 1) := Nat.pow_le_pow_right (by omega) (by omega)
  have h4 : 18446744073709551616 ^ b.length ≤ 18446744073709551616 ^ (i - 1) := Nat.pow_le_pow_right (by omega) (by omega)
  have h5 : 18446744073709551616 ^ i = 18446744073709551616 ^ (i - 1) * 18446744073709551616 := by rw [← Nat.pow_succ]; congr 1; omega
  have hc : c = 0 := by
    by_cases hc : c = 0
    · exact hc
    · have : 18446744073709551616 ^ i * 1 ≤ 18446744073709551616 ^ i * c := Nat.mul_le_mul_left _ (by omega)
      omega
  subst hc; simpa using h
theorem sub_step {a b o : List Nat} {i c s c' : Nat} (hl : o.length = i) (h : lv o + lo b i = lo a i + 18446744073709551616 ^ i * c) (hs : s + lmb b i + c = lmb a i + 18446744073709551616 * c') :
    lv (o ++ [s]) + lo b (i + 1) = lo a (i + 1) + 18446744073709551616 ^ (i + 1) * c' := by
  subst hl
  rw [lv_snoc, lo_succ, lo_succ, Nat.pow_succ]
  generalize 18446744073709551616 ^ o.length = p at *
  have e : p * (s + lmb b o.length + c) = p * (lmb a o.length + 18446744073709551616 * c') := by rw [hs]
  simp only [Nat.mul_add] at e
  rw [Nat.mul_assoc]
  omega
theorem sub_end {a b o : List Nat} {i c : Nat} (ho : okL o) (hl : o.length = i) (h : lv o + lo b i = lo a i + 18446744073709551616 ^ i * c) (hi : max a.length b.length ≤ i) (hc : c ≤ 1) (ha : okL a) : (c = 1 ↔ lv a < lv b) ∧ (c = 0 → lv o = lv a - lv b) := by
  have h0 := lo_lt ha i
  rw [lo_all (by omega), lo_all (by omega)] at h
  rw [lo_all (by omega)] at h0
  have h1 := lv_lt ho
  rw [hl] at h1
  rcases Nat.le_one_iff_eq_zero_or_eq_one.1 hc with rfl | rfl
  · exact ⟨⟨fun h => by omega, fun h' => by omega⟩, fun _ => by omega⟩
  · exact ⟨⟨fun _ => by omega, fun _ => rfl⟩, fun h => by omega⟩

/-! Comparing -/
def cmpN (a b : Nat) : Int := if a < b then -1 else if b < a then 1 else 0
theorem cmp_step {a b : List Nat} (ha : okL a) (hb : okL b) (i : Nat) : cmpN (lo a (i + 1)) (lo b (i + 1)) = if lmb a i < lmb b i then -1 else if lmb b i < lmb a i then 1 else cmpN (lo a i) (lo b i) := by
  have h1 := lo_lt ha i
  have h2 := lo_lt hb i
  rw [lo_succ, lo_succ]
  generalize 18446744073709551616 ^ i = p at *
  by_cases h : lmb a i < lmb b i
  · rw [if_pos h]
    have : p * (lmb a i + 1) ≤ p * lmb b i := Nat.mul_le_mul_left _ (by omega)
    rw [Nat.mul_add] at this
    unfold cmpN; rw [if_pos (by omega)]
  · rw [if_neg h]
    by_cases h' : lmb b i < lmb a i
    · rw [if_pos h']
      have : p * (lmb b i + 1) ≤ p * lmb a i := Nat.mul_le_mul_left _ (by omega)
      rw [Nat.mul_add] at this
      unfold cmpN; rw [if_neg (by omega), if_pos (by omega)]
    · rw [if_neg h']
      have : lmb a i = lmb b i := by omega
      rw [this]
      unfold cmpN
      by_cases h3 : lo a i < lo b i
      · rw [if_pos h3, if_pos (by omega)]
      · rw [if_neg h3, if_neg (by omega)]
        by_cases h4 : lo b i < lo a i
        · rw [if_pos h4, if_pos (by omega)]
        · rw [if_neg h4, if_neg (by omega)]
/-- What is above a place. -/
def hi (l : List Nat) (i : Nat) : Nat := lv (l.drop i)
theorem hi_step (l : List Nat) (i : Nat) : hi l i = lmb l i + 18446744073709551616 * hi l (i + 1) := by
  unfold hi
  rcases Nat.lt_or_ge i l.length with h | h
  · rw [List.drop_eq_getElem_cons h, lv, lmb_get (List.getElem?_eq_getElem h)]
  · rw [List.drop_of_length_le h, List.drop_of_length_le (by omega), lmb_out h]; rfl
theorem lo_hi (l : List Nat) (i : Nat) : lv l = lo l i + 18446744073709551616 ^ i * hi l i := by
  induction i with
  | zero => rw [lo_zero]; simp [hi]
  | succ i ih =>
    rw [ih, lo_succ, hi_step l i, Nat.mul_add, Nat.pow_succ, Nat.mul_assoc]; omega
theorem hi_out {l : List Nat} {i : Nat} (h : l.length ≤ i) : hi l i = 0 := by unfold hi; rw [List.drop_of_length_le h]; rfl
theorem cmp_hi {a b : List Nat} (ha : okL a) (hb : okL b) {i : Nat} (h : hi a i < hi b i) : cmpN (lv a) (lv b) = -1 ∧ cmpN (lv b) (lv a) = 1 := by
  have h1 := lo_lt ha i
  have h2 := lo_lt hb i
  have h3 : lv a < lv b := by
    rw [lo_hi a i, lo_hi b i]
    have : 18446744073709551616 ^ i * (hi a i + 1) ≤ 18446744073709551616 ^ i * hi b i := Nat.mul_le_mul_left _ (by omega)
    rw [Nat.mul_add] at this
    omega
  unfold cmpN
  exact ⟨by rw [if_pos h3], by rw [if_neg (by omega), if_pos h3]⟩

/-! Products -/
theorem lv_set : ∀ {l : List Nat} {j t : Nat}, j < l.length → lv (l.set j t) + 18446744073709551616 ^ j * lmb l j = lv l + 18446744073709551616 ^ j * t
  | x :: r, 0, t, _ => by simp [lv, lmb]; omega
  | x :: r, j + 1, t, h => by
    have ih := lv_set (l := r) (j := j) (t := t) (by simpa using h)
    have e : lmb (x :: r) (j + 1) = lmb r j := by simp [lmb]
    rw [List.set_cons_succ, lv, lv, e, Nat.pow_succ]
    generalize 18446744073709551616 ^ j = p at *
    have e2 : 18446744073709551616 * (lv (r.set j t) + p * lmb r j) = 18446744073709551616 * (lv r + p * t) := by rw [ih]
    simp only [Nat.mul_add] at e2
    rw [Nat.mul_right_comm, Nat.mul_right_comm p _ t, Nat.mul_comm _ 18446744073709551616, Nat.mul_comm (p * t) 18446744073709551616]
    omega
theorem lmb_set {l : List Nat} {j t k : Nat} (h : j < l.length) : lmb (l.set j t) k = if k = j then t else lmb l k := by
  unfold lmb
  rw [List.getD_eq_getElem?_getD, List.getD_eq_getElem?_getD, List.getElem?_set]
  by_cases hk : j = k
  · subst hk; rw [if_pos rfl, if_pos h, if_pos rfl]; rfl
  · rw [if_neg hk, if_neg (fun h => hk h.symm)]
/-- One limb's product within a product: what is put, what is carried. -/
theorem mul_limb {x y o m h l s c t d : Nat} (hx : x < 18446744073709551616) (hy : y < 18446744073709551616) (ho : o < 18446744073709551616) (hm : m < 18446744073709551616)
    (h1 : l + 18446744073709551616 * h = x * y) (h2 : s + 18446744073709551616 * c = o + l) (h3 : t + 18446744073709551616 * d = s + m) : t + 18446744073709551616 * (h + c + d) = x * y + o + m ∧ h + c + d < 18446744073709551616 := by
  have : x * y ≤ 18446744073709551615 * 18446744073709551615 := Nat.mul_le_mul (by omega) (by omega)
  omega
theorem mul_step {b out : List Nat} {V i k x m t m' : Nat} (hj : i + k < out.length) (h : lv out + 18446744073709551616 ^ (i + k) * m = V + 18446744073709551616 ^ i * (x * lo b k))
    (ht : t + 18446744073709551616 * m' = x * lmb b k + lmb out (i + k) + m) : lv (out.set (i + k) t) + 18446744073709551616 ^ (i + (k + 1)) * m' = V + 18446744073709551616 ^ i * (x * lo b (k + 1)) := by
  have hs := lv_set (t := t) hj
  rw [lo_succ, ← Nat.add_assoc, Nat.pow_succ]
  have e1 : 18446744073709551616 ^ i * (x * (lo b k + 18446744073709551616 ^ k * lmb b k)) = 18446744073709551616 ^ i * (x * lo b k) + 18446744073709551616 ^ (i + k) * (x * lmb b k) := by
    rw [Nat.pow_add]; grind
  rw [e1]
  generalize 18446744073709551616 ^ (i + k) = p at *
  have e2 : p * (t + 18446744073709551616 * m') = p * (x * lmb b k + lmb out (i + k) + m) := by rw [ht]
  simp only [Nat.mul_add] at e2
  rw [Nat.mul_assoc]
  omega
theorem mul_row {a b out : List Nat} {i m : Nat} (hj : i + b.length < out.length) (h0 : lmb out (i + b.length) = 0) (h : lv out + 18446744073709551616 ^ (i + b.length) * m = lo a i * lv b + 18446744073709551616 ^ i * (lmb a i * lv b)) :
    lv (out.set (i + b.length) m) = lo a (i + 1) * lv b := by
  have hs := lv_set (t := m) hj
  rw [h0, Nat.mul_zero, Nat.add_zero] at hs
  rw [hs, h, lo_succ, Nat.add_mul, Nat.mul_assoc]
end Go.Proofs.YtpemoeincepilaaDoor.Nt
