/- Plain, for nat.Read: digits, pieces of sixteen, limbs. -/
import Derived.Test.YtpemoeincepilaaDoorNtH
import Derived.Test.YtpemoeincepilaaDoorNtL
set_option linter.unusedVariables false
set_option linter.unusedSimpArgs false
namespace Go.Proofs.YtpemoeincepilaaDoor.Nt
open Go Go.RowKit SL

theorem rdN_zeros : ∀ {z : List Nat}, (∀ x ∈ z, x = 0) → rdN z = 0
  | [], _ => rfl
  | x :: r, h => by rw [rdN_cons, h x List.mem_cons_self, rdN_zeros (fun y hy => h y (List.mem_cons_of_mem _ hy))]; simp
/-- Digits, trimmed: the number stays, and its digits are counted. -/
theorem trim_dig {D : List Nat} (hD : ∀ d ∈ D, d < 16) : okL D.reverse ∧ rdN (can (lv D.reverse)).reverse = rdN D ∧ ndig (rdN D) = (can (lv D.reverse)).length ∧ ∀ d ∈ can (lv D.reverse), d < 16 := by
  have ho : okL D.reverse := fun x hx => by have := hD x (List.mem_reverse.1 hx); omega
  have ht := can_take ho
  have hz : ∀ x ∈ D.reverse.drop (can (lv D.reverse)).length, x = 0 := by
    have key : ∀ {l : List Nat}, okL l → ∀ x ∈ l.drop (can (lv l)).length, x = 0 := by
      intro l ho x hx
      have h1 := lo_hi l (can (lv l)).length
      have h2 : lo l (can (lv l)).length = lv l := by unfold lo; rw [← can_take ho]; exact lv_can _
      have h3 : hi l (can (lv l)).length = 0 := by
        have hp := pow_posB (can (lv l)).length
        have : 18446744073709551616 ^ (can (lv l)).length * hi l (can (lv l)).length = 0 := by omega
        rcases Nat.mul_eq_zero.1 this with h | h
        · omega
        · exact h
      have h4 : ∀ {r : List Nat}, lv r = 0 → ∀ x ∈ r, x = 0 := by
        intro r
        induction r with
        | nil => intro _ x hx; cases hx
        | cons y r ih =>
          intro h x hx
          rw [lv] at h
          rcases List.mem_cons.1 hx with rfl | hx
          · omega
          · exact ih (by omega) x hx
      exact h4 h3 x hx
    exact key ho
  have hsp : D = (D.reverse.drop (can (lv D.reverse)).length).reverse ++ (can (lv D.reverse)).reverse := by
    conv => lhs; rw [← List.reverse_reverse D, ← List.take_append_drop (can (lv D.reverse)).length D.reverse, List.reverse_append, ← ht]
  have hd : ∀ d ∈ can (lv D.reverse), d < 16 := fun d hd => by
    rw [ht] at hd
    exact hD d (List.mem_reverse.1 (List.mem_of_mem_take hd))
  have hv : rdN (can (lv D.reverse)).reverse = rdN D := by
    conv => rhs; rw [hsp, rdN_app, rdN_zeros (fun x hx => hz x (List.mem_reverse.1 hx))]
    simp
  refine ⟨ho, hv, ?_, hd⟩
  rw [← hv]
  cases hr : (can (lv D.reverse)).reverse with
  | nil =>
    have : (can (lv D.reverse)).length = 0 := by rw [← List.length_reverse, hr]; rfl
    rw [this]; rfl
  | cons d l =>
    have hlast : (can (lv D.reverse)).getLast? = some d := by rw [← List.head?_reverse, hr]; rfl
    have := can_trm (lv D.reverse) d hlast
    rw [ndig_rdN (fun x hx => hd x (List.mem_reverse.1 (by rw [hr]; exact hx))) this]
    have h2 := congrArg List.length hr
    rw [List.length_reverse, List.length_cons] at h2
    exact h2.symm
/-- One digit more. -/
theorem dig_or {c : List Nat} {k d : Nat} (hc : ∀ x ∈ c, x < 16) (hk : c[k]? = some d) (h16 : c.length ≤ 16) :
    rdN (c.take k).reverse < 2 ^ (4 * k) ∧ d * 2 ^ (4 * k) < 18446744073709551616 ∧ rdN (c.take (k + 1)).reverse = rdN (c.take k).reverse ||| d * 2 ^ (4 * k) := by
  obtain ⟨hlt, hd⟩ := List.getElem?_eq_some_iff.1 hk
  have h1 : rdN (c.take k).reverse < 2 ^ (4 * k) := by
    have := rdN_lt (l := (c.take k).reverse) (fun x hx => hc x (List.mem_of_mem_take (List.mem_reverse.1 hx)))
    rw [List.length_reverse, List.length_take, Nat.min_eq_left (by omega), pow16] at this
    exact this
  have hd16 : d < 16 := hc d (List.mem_of_getElem? hk)
  refine ⟨h1, ?_, ?_⟩
  · have h2 : 2 ^ (4 * k) ≤ 2 ^ 60 := Nat.pow_le_pow_right (by omega) (by omega)
    have h3 : d * 2 ^ (4 * k) ≤ 15 * 2 ^ 60 := Nat.mul_le_mul (by omega) h2
    omega
  · have e : c.take (k + 1) = c.take k ++ [d] := by rw [List.take_add_one, hk]; rfl
    rw [e, List.reverse_append, List.reverse_singleton, List.singleton_append, rdN_cons, List.length_reverse, List.length_take, Nat.min_eq_left (by omega), pow16, Nat.or_comm, Nat.mul_comm d, Nat.two_pow_add_eq_or_of_lt h1]
/-- One piece more. -/
theorem piece_step {T o : List Nat} {i : Nat} (hT : ∀ d ∈ T, d < 16) (hi : 16 * i < T.length) (hol : o.length = i) (hok : okL o) (h : lv o = rdN (T.take (16 * i)).reverse) :
    okL (o ++ [rdN ((T.drop (16 * i)).take 16).reverse]) ∧ lv (o ++ [rdN ((T.drop (16 * i)).take 16).reverse]) = rdN (T.take (16 * (i + 1))).reverse := by
  have hlt : rdN ((T.drop (16 * i)).take 16).reverse < 18446744073709551616 := by
    have := rdN_lt (l := ((T.drop (16 * i)).take 16).reverse) (fun x hx => hT x (List.mem_of_mem_drop (List.mem_of_mem_take (List.mem_reverse.1 hx))))
    refine Nat.lt_of_lt_of_le this ?_
    have : 16 ^ ((T.drop (16 * i)).take 16).reverse.length ≤ 16 ^ 16 := Nat.pow_le_pow_right (by omega) (by rw [List.length_reverse, List.length_take]; omega)
    exact this
  refine ⟨okL_app hok (fun x hx => by rw [List.mem_singleton.1 hx]; exact hlt), ?_⟩
  rw [lv_snoc, h, hol, show 16 * (i + 1) = 16 * i + 16 by omega, List.take_add, List.reverse_append, rdN_app, List.length_reverse, List.length_take, Nat.min_eq_left (by omega), Nat.pow_mul]
  exact Nat.add_comm _ _
/-- What Read answers: of a text and its lower letters. -/
def readE (n : Nat) (t : List UInt8) : Nat × Int := if n = 0 then (0, 2) else if (∀ c ∈ t, hx c.toNat < 16) then (if 8192 < ndig (rdN (t.map fun c => hx c.toNat)) then (0, 3) else (rdN (t.map fun c => hx c.toNat), 0)) else (0, 7)
end Go.Proofs.YtpemoeincepilaaDoor.Nt
