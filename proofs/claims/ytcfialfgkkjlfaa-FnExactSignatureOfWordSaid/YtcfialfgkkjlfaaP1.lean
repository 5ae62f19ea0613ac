/- Plain law: fractions over factorials. -/
import Derived.Test.YtcfialfgkkjlfaaG13
set_option linter.unusedSimpArgs false
set_option linter.unusedVariables false
namespace Go.Sg
open Go.Sx
theorem red_pos {a b : Int} (h : 0 < b) : red a b = ⟨a / gcd a b, b / gcd a b⟩ := by unfold red; rw [if_neg (by omega)]
theorem red_split (a : Int) {b : Int} (hb : 0 < b) : ∃ g a' b' : Int, 0 < g ∧ a = g * a' ∧ b = g * b' ∧ 0 < b' ∧ Nat.gcd a'.natAbs b'.natAbs = 1 ∧ red a b = ⟨a', b'⟩ := by
  have g1 := gcd_pos a b (by omega)
  have co : Int.gcd (a / gcd a b) (b / gcd a b) = 1 := Int.gcd_ediv_gcd_ediv_gcd (i := a) (j := b) (by unfold gcd at g1; exact Int.ofNat_lt.1 g1)
  rw [red_pos hb]
  obtain ⟨a', ha⟩ := gcd_dvd_left a b
  obtain ⟨b', hb'⟩ := gcd_dvd_right a b
  refine ⟨gcd a b, a', b', g1, ha, hb', ?_, ?_, ?_⟩
  all_goals generalize gcd a b = g at *
  all_goals subst ha hb'
  all_goals
    have e1 : g * a' / g = a' := Int.mul_ediv_cancel_left _ (by omega)
    have e2 : g * b' / g = b' := Int.mul_ediv_cancel_left _ (by omega)
    rw [e1, e2] at co
  · exact Int.pos_of_mul_pos_right hb (by omega)
  · exact co
  · rw [e1, e2]
theorem dvd_co {a b c : Int} (h : Nat.gcd a.natAbs b.natAbs = 1) (hd : b ∣ a * c) : b ∣ c := by
  have h1 := Int.natAbs_dvd_natAbs.2 hd
  rw [Int.natAbs_mul] at h1
  exact Int.natAbs_dvd_natAbs.1 (Nat.Coprime.dvd_of_dvd_mul_left (Nat.Coprime.symm h) h1)
theorem red_cross {a b c d : Int} (hb : 0 < b) (hd : 0 < d) (h : a * d = c * b) : red a b = red c d := by
  obtain ⟨g, a', b', hg, rfl, rfl, hb0, co1, e1⟩ := red_split a hb
  obtain ⟨k, c', d', hk, rfl, rfl, hd0, co2, e2⟩ := red_split c hd
  rw [e1, e2]
  have hx : a' * d' = c' * b' := by
    have h1 : (g * k) * (a' * d') = (g * k) * (c' * b') := by
      calc (g * k) * (a' * d') = g * a' * (k * d') := by ac_rfl
        _ = k * c' * (g * b') := h
        _ = _ := by ac_rfl
    exact Int.eq_of_mul_eq_mul_left (Int.mul_ne_zero (by omega) (by omega)) h1
  have d1 : b' ∣ d' := dvd_co co1 ⟨c', by rw [hx]; ac_rfl⟩
  have d2 : d' ∣ b' := dvd_co co2 ⟨a', by rw [← hx]; ac_rfl⟩
  have e : b' = d' := Int.dvd_antisymm (by omega) (by omega) d1 d2
  subst e
  have : a' = c' := Int.eq_of_mul_eq_mul_right (by omega) hx
  rw [this]
theorem red_val (a : Int) {b : Int} (h : 0 < b) : (red a b).num * b = a * (red a b).den ∧ 0 < (red a b).den ∧ (red a b).den ≤ b := by
  obtain ⟨g, a', b', hg, rfl, rfl, hb0, co1, e1⟩ := red_split a h
  rw [e1]
  refine ⟨show a' * (g * b') = g * a' * b' by ac_rfl, hb0, ?_⟩
  have := Int.mul_le_mul_of_nonneg_right (show 1 ≤ g by omega) (show 0 ≤ b' by omega)
  simp only
  omega
theorem red_isF {a b : Int} (h : 0 < b) (hb : b ≤ 1000000000) (h1 : -1000000000 ≤ a) (h2 : a ≤ 1000000000) : isF (red a b) = true := by
  have hv := red_val a h
  obtain ⟨g, a', b', hg, rfl, rfl, hb0, co1, e1⟩ := red_split a h
  rw [e1] at hv ⊢
  have hm : a'.natAbs ≤ (g * a').natAbs := by
    rw [Int.natAbs_mul]
    exact Nat.le_mul_of_pos_left _ (by omega)
  unfold isF
  simp only [decide_eq_true_eq]
  simp only at hv
  refine ⟨by omega, by omega, by omega, by omega, ?_⟩
  unfold gcd
  simp [Int.gcd, co1]
theorem fr_cross {a b c d : Int} (hb : 0 < b) (hd : 0 < d) (h : a * d = c * b) (hd2 : d ≤ 1000000000) (h1 : -1000000000 ≤ c) (h2 : c ≤ 1000000000) : fr a b = some (red c d) := by
  unfold fr fit
  rw [if_neg (by omega), red_cross hb hd h, if_pos (red_isF hd hd2 h1 h2)]
theorem mul3 {a b c d e f : Int} (h1 : a * b = c * d) (h2 : e * f = e * f) : a * e * (b * f) = c * e * (d * f) := by
  calc a * e * (b * f) = (a * b) * (e * f) := by ac_rfl
    _ = (c * d) * (e * f) := by rw [h1]
    _ = _ := by ac_rfl
/-- p over the factorial of k. -/
def qf (p : Int) (k : Nat) : Frac := red p (facN k)
theorem facI (k : Nat) : 0 < (facN k : Int) := Int.ofNat_lt.2 (facN_pos k)
theorem facI_le {k : Nat} (h : k ≤ 12) : (facN k : Int) ≤ 479001600 := by have := facN_le k h; omega
theorem qf_isF {p : Int} {k : Nat} (hk : k ≤ 12) (h1 : -1000000000 ≤ p) (h2 : p ≤ 1000000000) : isF (qf p k) = true := red_isF (facI k) (by have := facI_le hk; omega) h1 h2
theorem qf_add_x (p q : Int) (k : Nat) : ((qf p k).num * (qf q k).den + (qf q k).num * (qf p k).den) * (facN k : Int) = (p + q) * ((qf p k).den * (qf q k).den) ∧ 0 < (qf p k).den * (qf q k).den := by
  obtain ⟨h1, h2, _⟩ := red_val p (facI k)
  obtain ⟨h3, h4, _⟩ := red_val q (facI k)
  refine ⟨?_, Int.mul_pos h2 h4⟩
  unfold qf
  generalize red p (facN k) = x at *
  generalize red q (facN k) = y at *
  generalize (facN k : Int) = f at *
  calc (x.num * y.den + y.num * x.den) * f = (x.num * f) * y.den + (y.num * f) * x.den := by rw [Int.add_mul]; ac_rfl
    _ = p * x.den * y.den + q * y.den * x.den := by rw [h1, h3]
    _ = (p + q) * (x.den * y.den) := by rw [Int.add_mul]; ac_rfl
theorem qf_addR (p q : Int) (k : Nat) : addR (qf p k) (qf q k) = qf (p + q) k := by
  obtain ⟨h1, h2⟩ := qf_add_x p q k
  exact red_cross h2 (facI k) h1
theorem qf_addF {p q : Int} {k : Nat} (hk : k ≤ 12) (h1 : -1000000000 ≤ p + q) (h2 : p + q ≤ 1000000000) : addF (qf p k) (qf q k) = some (qf (p + q) k) := by
  obtain ⟨h3, h4⟩ := qf_add_x p q k
  exact fr_cross h4 (facI k) h3 (by have := facI_le hk; omega) h1 h2
theorem qf_zero (k : Nat) : qf 0 k = f01 := by
  have : qf 0 k = red 0 1 := red_cross (facI k) (by omega) (by simp)
  rw [this]
  decide
theorem qf_num {p : Int} {k : Nat} : (qf p k).num = 0 ↔ p = 0 := by
  obtain ⟨h1, h2, _⟩ := red_val p (facI k)
  have h3 := facI k
  unfold qf
  generalize red p (facN k) = x at *
  generalize (facN k : Int) = f at *
  constructor
  · intro h
    rw [h, Int.zero_mul] at h1
    rcases Int.mul_eq_zero.1 h1.symm with h | h
    · exact h
    · omega
  · rintro rfl
    rw [Int.zero_mul] at h1
    rcases Int.mul_eq_zero.1 h1 with h | h
    · exact h
    · omega
/-- p times u over the product of factorials. -/
theorem qf_mulR (p u : Int) {i j c : Nat} (hc : c * (facN i * facN j) = facN (i + j)) : mulR (qf p i) ⟨u, facN j⟩ = qf (c * u * p) (i + j) := by
  obtain ⟨h1, h2, _⟩ := red_val p (facI i)
  have h3 := facI j
  have h4 : (c : Int) * (facN i * facN j) = facN (i + j) := by rw [← hc]; simp
  unfold mulR qf at *
  refine red_cross (Int.mul_pos h2 h3) (facI _) ?_
  rw [← h4]
  generalize red p (facN i) = x at *
  simp only
  generalize (facN i : Int) = f at *
  generalize (facN j : Int) = g at *
  calc x.num * u * (c * (f * g)) = (x.num * f) * (u * c * g) := by ac_rfl
    _ = p * x.den * (u * c * g) := by rw [h1]
    _ = _ := by ac_rfl
end Go.Sg
