/- Plain definitions: fractions, the kinds of data of this program. -/
import Derived.Test.YtcfialfgkkjlfaaA6
set_option linter.unusedSimpArgs false
set_option linter.unusedVariables false
namespace Go.Sg
open Go.Sx Go.RowKit

structure Frac where
  num : Int
  den : Int
  deriving DecidableEq
structure Term where
  word : ByteArray
  val : Frac

def encF (a : Frac) : List Value := [.int .i64 a.num, .int .i64 a.den]
def encT (t : Term) : List Value := [.string t.word, .int .i64 t.val.num, .int .i64 t.val.den]
def dInt : Dat Int := flat 1 (fun x => [.int .i64 x]) (fun _ => rfl) (fun _ u hu => by rw [List.mem_singleton.1 hu]; rfl)
def dStr : Dat ByteArray := flat 1 (fun x => [.string x]) (fun _ => rfl) (fun _ u hu => by rw [List.mem_singleton.1 hu]; rfl)
def dByte : Dat Int := flat 1 (fun x => [.int .u8 x]) (fun _ => rfl) (fun _ u hu => by rw [List.mem_singleton.1 hu]; rfl)
def dFrac : Dat Frac := flat 2 encF (fun _ => rfl) (fun _ u hu => by simp [encF] at hu; rcases hu with rfl | rfl <;> rfl)
def dTerm : Dat Term := flat 3 encT (fun _ => rfl) (fun _ u hu => by simp [encT] at hu; rcases hu with rfl | rfl | rfl <;> rfl)

/-! ### Fractions -/
def gcd (a b : Int) : Int := (Int.gcd a b : Int)
def isF (a : Frac) : Bool := decide (1 ≤ a.den ∧ a.den ≤ 1000000000 ∧ -1000000000 ≤ a.num ∧ a.num ≤ 1000000000 ∧ gcd a.num a.den = 1)
/-- num / den in lowest terms, den of at least 1 (den not 0). -/
def red (n d : Int) : Frac := if d < 0 then ⟨-(n / gcd n d), -(d / gcd n d)⟩ else ⟨n / gcd n d, d / gcd n d⟩
/-- A fraction, if it fits. -/
def fit (a : Frac) : Option Frac := if isF a then some a else none

theorem gcd_nonneg (a b : Int) : 0 ≤ gcd a b := Int.natCast_nonneg _
theorem gcd_pos (a b : Int) (h : b ≠ 0) : 0 < gcd a b := by
  unfold gcd
  have := Int.gcd_pos_of_ne_zero_right a h
  omega
theorem gcd_dvd_left (a b : Int) : gcd a b ∣ a := Int.gcd_dvd_left a b
theorem gcd_dvd_right (a b : Int) : gcd a b ∣ b := Int.gcd_dvd_right a b
theorem gcd_le (a b : Int) (h : b ≠ 0) : gcd a b ≤ b.natAbs := by
  have h1 := Int.natAbs_dvd_natAbs.2 (gcd_dvd_right a b)
  have h2 := Nat.le_of_dvd (by omega) h1
  have := gcd_nonneg a b
  omega
theorem tdiv_dvd (n g N : Int) (hN1 : -N ≤ n) (hN2 : n ≤ N) (hd : g ∣ n) (hg : 0 < g) : n.tdiv g = n / g ∧ n.tdiv (-g) = -(n / g) ∧ -N ≤ n / g ∧ n / g ≤ N := by
  obtain ⟨k, rfl⟩ := hd
  rw [Int.tdiv_neg, Int.tdiv_eq_ediv_of_dvd (Int.dvd_mul_right g k), Int.mul_ediv_cancel_left _ (by omega)]
  refine ⟨rfl, rfl, ?_, ?_⟩
  · rcases Int.le_total 0 k with h | h
    · have := Int.mul_nonneg (Int.le_of_lt hg) h
      omega
    · have : g * k ≤ 1 * k := Int.mul_le_mul_of_nonpos_right (by omega) h
      omega
  · rcases Int.le_total 0 k with h | h
    · have : 1 * k ≤ g * k := Int.mul_le_mul_of_nonneg_right (by omega) h
      omega
    · have : 0 ≤ g * -k := Int.mul_nonneg (by omega) (by omega)
      rw [Int.mul_neg] at this
      omega
/-- One round of Euclid's algorithm, as Go's remainder goes. -/
theorem gcd_step (a b : Int) : gcd b (a.tmod b) = gcd a b := by
  unfold gcd
  congr 1
  rw [Int.gcd_comm a b]
  show Nat.gcd b.natAbs (a.tmod b).natAbs = Nat.gcd b.natAbs a.natAbs
  rw [Int.natAbs_tmod, Nat.gcd_comm b.natAbs (a.natAbs % b.natAbs), Nat.gcd_comm b.natAbs a.natAbs, Nat.gcd_comm a.natAbs b.natAbs]
  exact (Nat.gcd_rec b.natAbs a.natAbs).symm
theorem tmod_bd (p q : Int) (hq : q ≠ 0) : (p.tmod q).natAbs < q.natAbs ∧ (∀ N : Int, -N ≤ q → q ≤ N → -N ≤ p.tmod q ∧ p.tmod q ≤ N) := by
  have h : (p.tmod q).natAbs < q.natAbs := by rw [Int.natAbs_tmod]; exact Nat.mod_lt _ (by omega)
  refine ⟨h, ?_⟩
  revert h
  generalize p.tmod q = r
  intro h N h1 h2
  omega
theorem gcd_zero (a : Int) : gcd a 0 = a.natAbs := by simp [gcd]
/-- num / den if that fits (den 0: it does not). -/
def fr (n d : Int) : Option Frac := if d = 0 then none else fit (red n d)
def fnum (a : Frac) : Prop := isF a = true
theorem isF_b {a : Frac} (h : isF a = true) : 1 ≤ a.den ∧ a.den ≤ 1000000000 ∧ -1000000000 ≤ a.num ∧ a.num ≤ 1000000000 := by
  have := of_decide_eq_true h
  omega
theorem mul_b {a b A B : Int} (h1 : -A ≤ a) (h2 : a ≤ A) (h3 : -B ≤ b) (h4 : b ≤ B) : -(A * B) ≤ a * b ∧ a * b ≤ A * B := by
  have hA : a.natAbs ≤ A.natAbs := by omega
  have hB : b.natAbs ≤ B.natAbs := by omega
  have h := Nat.mul_le_mul hA hB
  rw [← Int.natAbs_mul, ← Int.natAbs_mul] at h
  have h5 : 0 ≤ A * B := Int.mul_nonneg (by omega) (by omega)
  omega
/-- Products of parts of fractions are of at most 18 digits. -/
theorem mul_18 {a b : Int} (h1 : -1000000000 ≤ a) (h2 : a ≤ 1000000000) (h3 : -1000000000 ≤ b) (h4 : b ≤ 1000000000) : -1000000000000000000 ≤ a * b ∧ a * b ≤ 1000000000000000000 := by
  have := mul_b h1 h2 h3 h4
  omega
def okF (a : Frac) : Prop := 0 ≤ a.den ∧ a.den ≤ 1000000000 ∧ -1000000000 ≤ a.num ∧ a.num ≤ 1000000000
theorem isF_ok {a : Frac} (h : isF a = true) : okF a := by have := isF_b h; unfold okF; omega
def addR (a b : Frac) : Frac := red (a.num * b.den + b.num * a.den) (a.den * b.den)
def mulR (a b : Frac) : Frac := red (a.num * b.num) (a.den * b.den)
def addF (a b : Frac) : Option Frac := fr (a.num * b.den + b.num * a.den) (a.den * b.den)
def mulF (a b : Frac) : Option Frac := fr (a.num * b.num) (a.den * b.den)
def f00 : Frac := ⟨0, 0⟩
end Go.Sg
