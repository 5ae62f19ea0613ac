/- Plain definitions: products of matrices of fractions. -/
import Derived.Test.YtcfialfgkkjlfaaB2
set_option linter.unusedSimpArgs false
set_option linter.unusedVariables false
namespace Go.Sg
open Go.Sx Go.RowKit

def f01 : Frac := ⟨0, 1⟩
theorem isF_01 : isF f01 = true := by decide
theorem fit_isF {a x : Frac} (h : fit a = some x) : isF x = true := by
  unfold fit at h
  split at h
  · injection h with h; subst h; assumption
  · cases h
theorem fr_isF {n d : Int} {x : Frac} (h : fr n d = some x) : isF x = true := by
  unfold fr at h
  split at h
  · cases h
  · exact fit_isF h
theorem mulF_fit {a b : Frac} (ha : isF a = true) (hb : isF b = true) : mulF a b = if isF (mulR a b) then some (mulR a b) else none := by
  have h1 := isF_b ha
  have h2 := isF_b hb
  have h3 : a.den * b.den ≠ 0 := Int.ne_of_gt (Int.mul_pos (by omega) (by omega))
  unfold mulF fr mulR
  rw [if_neg h3]
  rfl
theorem addF_fit {a b : Frac} (ha : isF a = true) (hb : isF b = true) : addF a b = if isF (addR a b) then some (addR a b) else none := by
  have h1 := isF_b ha
  have h2 := isF_b hb
  have h3 : a.den * b.den ≠ 0 := Int.ne_of_gt (Int.mul_pos (by omega) (by omega))
  unfold addF fr addR
  rw [if_neg h3]
  rfl
def at2 (m : List (List Frac)) (i j : Nat) : Frac := ((m[i]?.getD [])[j]?).getD f00
def dotU (a b : List (List Frac)) (i j : Nat) : Nat → Option Frac
  | 0 => some f01
  | k + 1 => (dotU a b i j k).bind fun s => (mulF (at2 a i k) (at2 b k j)).bind fun p => addF s p
def rowU (a b : List (List Frac)) (i n : Nat) : Nat → Option (List Frac)
  | 0 => some []
  | j + 1 => (rowU a b i n j).bind fun r => (dotU a b i j n).map fun x => r ++ [x]
def tabU (a b : List (List Frac)) (n : Nat) : Nat → Option (List (List Frac))
  | 0 => some []
  | i + 1 => (tabU a b n i).bind fun t => (rowU a b i n n).map fun r => t ++ [r]
/-- The product of two matrices, if all fractions on the way fit. -/
def mulTab (a b : List (List Frac)) : Option (List (List Frac)) := tabU a b a.length a.length
section
variable {a b : List (List Frac)} {i j n : Nat}
theorem dotU_isF : ∀ {k : Nat} {s : Frac}, dotU a b i j k = some s → isF s = true
  | 0, s, h => by injection h with h; subst h; exact isF_01
  | k + 1, s, h => by
    unfold dotU at h
    obtain ⟨s0, _, h⟩ := Option.bind_eq_some_iff.1 h
    obtain ⟨p, _, h⟩ := Option.bind_eq_some_iff.1 h
    exact fr_isF h
theorem dotU_none {k : Nat} (h : dotU a b i j k = none) : ∀ d, dotU a b i j (k + d) = none
  | 0 => h
  | d + 1 => by
    show (dotU a b i j (k + d)).bind _ = none
    rw [dotU_none h d]
    rfl
theorem rowU_none {k : Nat} (h : rowU a b i n k = none) : ∀ d, rowU a b i n (k + d) = none
  | 0 => h
  | d + 1 => by
    show (rowU a b i n (k + d)).bind _ = none
    rw [rowU_none h d]
    rfl
theorem tabU_none {k : Nat} (h : tabU a b n k = none) : ∀ d, tabU a b n (k + d) = none
  | 0 => h
  | d + 1 => by
    show (tabU a b n (k + d)).bind _ = none
    rw [tabU_none h d]
    rfl
/-- Where a sum at (i, j) fails, the product does. -/
theorem tab_fail {k : Nat} (h : dotU a b i j k = none) (hk : k ≤ n) (hj : j < n) (hi : i < n) : tabU a b n n = none := by
  have h1 : dotU a b i j n = none := by
    have := dotU_none h (n - k)
    rwa [Nat.add_sub_cancel' hk] at this
  have h2 : rowU a b i n (j + 1) = none := by
    show (rowU a b i n j).bind _ = none
    rw [h1]
    cases rowU a b i n j <;> rfl
  have h3 : rowU a b i n n = none := by
    have := rowU_none h2 (n - (j + 1))
    rwa [Nat.add_sub_cancel' hj] at this
  have h4 : tabU a b n (i + 1) = none := by
    show (tabU a b n i).bind _ = none
    rw [h3]
    cases tabU a b n i <;> rfl
  have := tabU_none h4 (n - (i + 1))
  rwa [Nat.add_sub_cancel' hi] at this
theorem dotU_step {k : Nat} {s : Frac} (h : dotU a b i j k = some s) : dotU a b i j (k + 1) = (mulF (at2 a i k) (at2 b k j)).bind fun p => addF s p := by
  show (dotU a b i j k).bind _ = _
  rw [h]
  rfl
theorem rowU_step {r : List Frac} {x : Frac} (h : rowU a b i n j = some r) (hx : dotU a b i j n = some x) : rowU a b i n (j + 1) = some (r ++ [x]) := by
  show (rowU a b i n j).bind _ = _
  rw [h, Option.bind_some, hx]
  rfl
theorem tabU_step {t : List (List Frac)} {r : List Frac} (h : tabU a b n i = some t) (hr : rowU a b i n n = some r) : tabU a b n (i + 1) = some (t ++ [r]) := by
  show (tabU a b n i).bind _ = _
  rw [h, Option.bind_some, hr]
  rfl
end
theorem rep_cons {α : Type} {n k : Nat} (z : α) (h : k < n) : List.replicate (n - k) z = z :: List.replicate (n - (k + 1)) z := by
  have e : n - k = (n - (k + 1)) + 1 := by omega
  rw [e, List.replicate_succ]
end Go.Sg
