/- Contracts: words. -/
import Derived.Test.YtcfialfgkkjlfaaE5
set_option linter.unusedSimpArgs false
set_option linter.unusedVariables false
namespace Go.Sg
/-- Byte i of a text, as a number. -/
def byt (w : ByteArray) (i : Nat) : Int := if h : i < w.size then (w[i].toNat : Int) else 0
theorem byt_at {w : ByteArray} {i : Nat} (h : i < w.size) : byt w i = (w[i].toNat : Int) := by unfold byt; rw [dif_pos h]
/-- Whether the bytes from place i on are letters. -/
def lets (d : Int) (w : ByteArray) : Bool := (List.range w.size).all fun i => decide (48 ≤ byt w i) && decide (byt w i < 48 + d)
end Go.Sg
namespace Go.Sg
theorem lets_no {d : Int} {w : ByteArray} {k : Nat} (h : k < w.size) (hb : byt w k < 48 ∨ 48 + d ≤ byt w k) : lets d w = false := by
  unfold lets
  refine List.all_eq_false.2 ⟨k, List.mem_range.2 h, ?_⟩
  simp
  omega
theorem lets_yes {d : Int} {w : ByteArray} (h : ∀ j, j < w.size → 48 ≤ byt w j ∧ byt w j < 48 + d) : lets d w = true := by
  unfold lets
  refine List.all_eq_true.2 fun j hj => ?_
  have := h j (List.mem_range.1 hj)
  simp [this]
end Go.Sg
namespace Go.Proofs.Ytcfialfgkkjlfaa
open Go.RowKit Go.Sx Go.Sg
set_option maxRecDepth 100000 in
theorem isWord_ok (d most : Int) (s : ByteArray) (w0 : World) (hd0 : 0 ≤ d) (hd1 : d ≤ 1000) (N : Nat) (hN : N ≤ 4611686018427387904) (hs : s.size ≤ N) :
    Calls Try.prog 88 #[.int .i64 d, .string s, .int .i64 most] w0 fun e w' => e = .returned (.bool (lets d s && decide ((s.size : Int) ≤ most))) ∧ Chg [] w0 w' := by
  have S := St.start w0
  go_enter Try.func88, Try.ntmps88
  go_wp2
  go_loopw [10] (fun i wr => ∃ k : Nat, k ≤ s.size ∧ i = .int .i64 k ∧ Hid (∀ j, j < k → 48 ≤ byt s j ∧ byt s j < 48 + d) ∧ St [] w0 wr []) (fun i _ => s.size - (intOf i).toNat)
  case atStart => exact ⟨0, Nat.zero_le _, rfl, hid (fun j h => by omega), S⟩
  case round =>
    clear S
    obtain ⟨k, hk, rfl, hp, S⟩ := hrel
    by_cases hlt : k < s.size
    · have hb : s[k].toNat < 256 := s[k].toNat_lt
      have hbt := hid (byt_at hlt)
      go_wp2
      case' roundEnd =>
        go_roundw
        case rel =>
          refine ⟨k + 1, hlt, by go_num, hid (fun j hj => ?_), S⟩
          by_cases hjk : j = k
          · subst hjk
            rw [hbt.out]
            omega
          · exact hp.out j (by omega)
        case measure => simp [intOf]; omega
      all_goals refine s_ret1 S (h := ?_)
      all_goals refine ⟨?_, S.chg⟩
      all_goals rw [lets_no hlt (by rw [hbt.out]; omega)]
      all_goals rfl
    · obtain rfl : k = s.size := by omega
      go_wp2
      refine s_ret1 S (h := ?_)
      refine ⟨?_, S.chg⟩
      rw [lets_yes hp.out]
      rfl
set_option maxRecDepth 100000 in
theorem l01Word_ok (d : Int) (s : ByteArray) (w0 : World) (hd0 : 0 ≤ d) (hd1 : d ≤ 1000) (N : Nat) (hN : N ≤ 4611686018427387904) (hs : s.size ≤ N) :
    Calls Try.prog 91 #[.int .i64 d, .string s] w0 fun e w' => e = .returned (.bool (lets d s)) ∧ Chg [] w0 w' := by
  have S := St.start w0
  go_enter Try.func91, Try.ntmps91
  go_wp2
  go_loopw [5] (fun i wr => ∃ k : Nat, k ≤ s.size ∧ i = .int .i64 k ∧ Hid (∀ j, j < k → 48 ≤ byt s j ∧ byt s j < 48 + d) ∧ St [] w0 wr []) (fun i _ => s.size - (intOf i).toNat)
  case atStart => exact ⟨0, Nat.zero_le _, rfl, hid (fun j h => by omega), S⟩
  case round =>
    clear S
    obtain ⟨k, hk, rfl, hp, S⟩ := hrel
    by_cases hlt : k < s.size
    · have hb : s[k].toNat < 256 := s[k].toNat_lt
      have hbt := hid (byt_at hlt)
      go_wp2
      case' roundEnd =>
        go_roundw
        case rel =>
          refine ⟨k + 1, hlt, by go_num, hid (fun j hj => ?_), S⟩
          by_cases hjk : j = k
          · subst hjk
            rw [hbt.out]
            omega
          · exact hp.out j (by omega)
        case measure => simp [intOf]; omega
      all_goals refine s_ret1 S (h := ?_)
      all_goals refine ⟨?_, S.chg⟩
      all_goals rw [lets_no hlt (by rw [hbt.out]; omega)]
      all_goals rfl
    · obtain rfl : k = s.size := by omega
      go_wp2
      refine s_ret1 S (h := ?_)
      refine ⟨?_, S.chg⟩
      rw [lets_yes hp.out]
      rfl
end Go.Proofs.Ytcfialfgkkjlfaa
