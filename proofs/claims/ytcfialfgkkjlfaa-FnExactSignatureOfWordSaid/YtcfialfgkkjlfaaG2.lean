/- Numbers of words: contract of number. -/
import Derived.Test.YtcfialfgkkjlfaaG1
set_option linter.unusedSimpArgs false
set_option linter.unusedVariables false
namespace Go.Sg
/-- The number of words of fewer letters, and the word's number among those of its length. -/
def aheadN (d : Nat) : Nat → Nat
  | 0 => 0
  | n + 1 => aheadN d n + d ^ n
def valN (d : Nat) (w : ByteArray) : Nat → Nat
  | 0 => 0
  | k + 1 => valN d w k * d + (byt w k - 48).toNat
def num (d : Nat) (w : ByteArray) : Nat := aheadN d w.size + valN d w w.size
theorem aheadN_le (d : Nat) (hd : d ≤ 3) : ∀ n, n ≤ 8 → aheadN d n ≤ n * 6561
  | 0, _ => by simp [aheadN]
  | n + 1, h => by
    have h1 := aheadN_le d hd n (by omega)
    have h2 : d ^ n ≤ 6561 := Nat.le_trans (Nat.pow_le_pow_left hd n) (Nat.pow_le_pow_right (by omega) (show n ≤ 8 by omega))
    simp only [aheadN]
    omega
theorem lets_b {d : Int} {w : ByteArray} (h : lets d w = true) {k : Nat} (hk : k < w.size) : 48 ≤ byt w k ∧ byt w k < 48 + d := by
  unfold lets at h
  have := List.all_eq_true.1 h k (List.mem_range.2 hk)
  simpa using this
theorem valN_lt {d : Nat} {w : ByteArray} (h : lets d w = true) : ∀ k, k ≤ w.size → valN d w k < d ^ k
  | 0, _ => by simp [valN]
  | k + 1, hk => by
    have h1 := valN_lt h k (by omega)
    have h2 := lets_b h (show k < w.size by omega)
    have h3 : (byt w k - 48).toNat + 1 ≤ d := by omega
    simp only [valN, Nat.pow_succ]
    have h4 : (valN d w k + 1) * d ≤ d ^ k * d := Nat.mul_le_mul_right d h1
    rw [Nat.add_mul] at h4
    omega
end Go.Sg
namespace Go.Proofs.Ytcfialfgkkjlfaa
open Go.RowKit Go.Sx Go.Sg
set_option maxRecDepth 100000 in
theorem number_ok (d : Nat) (s : ByteArray) (w0 : World) (hd : d ≤ 3) (hs : s.size ≤ 8) (hw : lets d s = true) : Calls Try.prog 142 #[.int .i64 d, .string s] w0 fun e w' => e = .returned (.int .i64 (num d s : Nat)) ∧ Chg [] w0 w' := by
  have S := St.start w0
  go_enter Try.func142, Try.ntmps142
  go_wp2
  go_loopw [5, 6, 7, 11] (fun u v m i wr => ∃ k : Nat, k ≤ s.size ∧ i = .int .i64 k ∧ u = .int .i64 (aheadN d k : Nat) ∧ v = .int .i64 (valN d s k : Nat) ∧ m = .int .i64 (d ^ k : Nat) ∧ St [] w0 wr []) (fun _ _ _ i _ => s.size - (intOf i).toNat)
  case atStart => exact ⟨0, Nat.zero_le _, rfl, rfl, rfl, rfl, S⟩
  case round =>
    clear S
    obtain ⟨k, hk, rfl, rfl, rfl, rfl, S⟩ := hrel
    by_cases hlt : k < s.size
    · have hb : s[k].toNat < 256 := s[k].toNat_lt
      have hbt := byt_at hlt
      have hlb := lets_b hw hlt
      rw [hbt] at hlb
      have h1 := aheadN_le d hd k (by omega)
      have h2 : d ^ k ≤ 6561 := Nat.le_trans (Nat.pow_le_pow_left hd k) (Nat.pow_le_pow_right (by omega) (show k ≤ 8 by omega))
      have h3 := valN_lt hw k hk
      have e1 : aheadN d (k + 1) = aheadN d k + d ^ k := rfl
      have e2 : d ^ (k + 1) = d ^ k * d := Nat.pow_succ ..
      have e3 : valN d s (k + 1) = valN d s k * d + (s[k].toNat - 48) := by rw [valN, hbt]; omega
      replace e1 := hid e1; replace e2 := hid e2; replace e3 := hid e3; replace hbt := hid hbt
      generalize d ^ k = p at *
      generalize aheadN d k = q at *
      generalize valN d s k = r at *
      have h4 : p * d ≤ 6561 * 3 := Nat.mul_le_mul h2 hd
      have h5 : r * d ≤ 6561 * 3 := Nat.mul_le_mul (by omega) hd
      have h6 : (p : Int) * (d : Int) ≤ 19683 := by rw [← Int.natCast_mul]; omega
      have h7 : (r : Int) * (d : Int) ≤ 19683 := by rw [← Int.natCast_mul]; omega
      have h8 : 0 ≤ (p : Int) * (d : Int) := by rw [← Int.natCast_mul]; omega
      have h9 : 0 ≤ (r : Int) * (d : Int) := by rw [← Int.natCast_mul]; omega
      go_wp2
      go_roundw
      case rel =>
        refine ⟨k + 1, hlt, by go_num, ?_, ?_, ?_, S⟩
        · rw [e1.out]; simp
        · rw [e3.out]; simp; omega
        · rw [e2.out]; simp
      case measure => simp [intOf]; omega
    · obtain rfl : k = s.size := by omega
      have h1 := aheadN_le d hd s.size hs
      have h2 : d ^ s.size ≤ 6561 := Nat.le_trans (Nat.pow_le_pow_left hd _) (Nat.pow_le_pow_right (by omega) hs)
      have h3 := valN_lt hw s.size hk
      replace h3 := Nat.lt_of_lt_of_le h3 h2
      clear h2
      go_wp2
      refine s_ret1 S (h := ?_)
      refine ⟨?_, S.chg⟩
      simp [num]
end Go.Proofs.Ytcfialfgkkjlfaa
