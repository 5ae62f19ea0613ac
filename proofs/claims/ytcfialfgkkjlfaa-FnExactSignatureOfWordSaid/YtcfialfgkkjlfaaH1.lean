/- Contracts of the reference: l01Before, l01Zero, l01Empty, l01One. -/
import Derived.Test.YtcfialfgkkjlfaaG13
import Derived.Test.YtcfialfgkkjlfaaA13
import Derived.Laws.Strings
set_option linter.unusedSimpArgs false
set_option linter.unusedVariables false
namespace Go.Sg
open Go.Sx
theorem toList_inj {a b : ByteArray} : a.toList = b.toList ↔ a = b := by
  rw [ByteArray.toList_eq, ByteArray.toList_eq]
  constructor
  · intro h
    obtain ⟨⟨a⟩⟩ := a
    obtain ⟨⟨b⟩⟩ := b
    have h : a = b := h
    rw [h]
  · intro h; rw [h]
theorem beqB_ne {a b : ByteArray} (h : a ≠ b) : (a.toList == b.toList) = false := by simpa using fun h' => h (toList_inj.1 h')
theorem beqB_eq {a b : ByteArray} (h : a = b) : (a.toList == b.toList) = true := by rw [h]; simp
/-- Whether a word comes before another. -/
def befW (v w : ByteArray) : Bool := if v.size = w.size then Op.bytesLess v.toList w.toList else decide (v.size < w.size)
end Go.Sg
namespace Go.Proofs.Ytcfialfgkkjlfaa
open Go.RowKit Go.Sx Go.Sg
theorem l01Before_ok (s u : ByteArray) (w0 : World) (N : Nat) (hN : N ≤ 4611686018427387904) (hs : s.size ≤ N) (hu : u.size ≤ N) : Calls Try.prog 137 #[.string s, .string u] w0 fun e w' => e = .returned (.bool (befW s u)) ∧ Chg [] w0 w' := by
  have S := St.start w0
  by_cases h : s.size = u.size
  · have e : befW s u = Op.bytesLess s.toList u.toList := by unfold befW; rw [if_pos h]
    rw [e]
    go_enter Try.func137, Try.ntmps137
    go_wp2
    refine s_ret1 S (h := ?_)
    exact ⟨rfl, S.chg⟩
  · have e : befW s u = decide (s.size < u.size) := by unfold befW; rw [if_neg h]
    rw [e]
    go_enter Try.func137, Try.ntmps137
    go_wp2
    refine s_ret1 S (h := ?_)
    refine ⟨?_, S.chg⟩
    simp
theorem l01Zero_ok (a : Frac) (w0 : World) : Calls Try.prog 136 #[.agg #[.int .i64 a.num, .int .i64 a.den]] w0 fun e w' => e = .returned (.bool (a.num == 0)) ∧ Chg [] w0 w' := by
  have S := St.start w0
  go_enter Try.func136, Try.ntmps136
  go_wp2_with (first | ((with_reducible refine s_box S (h := ?_)); clear S; intro b w S hcN; clear hcN) | ((with_reducible refine s_alloc S (h := ?_)); clear S; intro b w S hcN; clear hcN) | (with_reducible refine s_load S (h := ?_)) | (with_reducible refine s_loadA S (h := ?_)) | ((with_reducible refine s_store S (h := ?_)); clear S; intro w S))
  refine s_ret1 S (h := ?_)
  exact ⟨rfl, S.chg⟩
theorem l01Empty_ok (d n : Int) (A : Option Addr) (m c : Nat) (w0 : World) : Calls Try.prog 80 #[.agg #[.int .i64 d, .int .i64 n, .slice A m c]] w0 fun e w' => ∃ v bs, e = .returned (.agg #[.int .i64 d, .int .i64 n, v]) ∧ St [] w0 w' [serV v [] bs] := by
  have S := St.start w0
  go_enter Try.func80, Try.ntmps80
  go_wp2_with (first
    | ((with_reducible refine gd 7 ?_); refine s_bs0 (d := dTerm) S ?_; clear S; intro b w1 S hcN; clear hcN)
    | ((with_reducible refine s_box S (h := ?_)); clear S; intro b w S hcN; clear hcN) | ((with_reducible refine s_alloc S (h := ?_)); clear S; intro b w S hcN; clear hcN) | (with_reducible refine s_load S (h := ?_)) | (with_reducible refine s_loadA S (h := ?_)) | ((with_reducible refine s_store S (h := ?_)); clear S; intro w S))
  refine s_ret1 S (h := ?_)
  exact ⟨_, [b], rfl, S.sel (by repeat (first | exact Sel.nil | (apply Sel.cons (by repeat (first | exact Rem.here | apply Rem.there)))))⟩
theorem l01One_ok (d n : Int) (s : ByteArray) (w0 : World) : Calls Try.prog 123 #[.int .i64 d, .int .i64 n, .string s] w0 fun e w' => ∃ v bs, e = .returned (.agg #[.int .i64 d, .int .i64 n, v]) ∧ St [] w0 w' [serV v [⟨s, ⟨1, 1⟩⟩] bs] := by
  have S := St.start w0
  go_enter Try.func123, Try.ntmps123
  go_wp2_with (first
    | ((with_reducible refine gd 12 ?_); refine s_bs (cs := [.string s, .int .i64 1, .int .i64 1]) S ?_; clear S; intro b w1 S hcN; clear hcN)
    | ((with_reducible refine s_box S (h := ?_)); clear S; intro b w S hcN; clear hcN) | ((with_reducible refine s_alloc S (h := ?_)); clear S; intro b w S hcN; clear hcN) | (with_reducible refine s_load S (h := ?_)) | (with_reducible refine s_loadA S (h := ?_)) | ((with_reducible refine s_store S (h := ?_)); clear S; intro w S))
  refine s_ret1 S (h := ?_)
  refine ⟨_, [b], rfl, ?_⟩
  have S := S.sel (H' := [cel b [.string s, .int .i64 1, .int .i64 1] 98]) (by repeat (first | exact Sel.nil | (apply Sel.cons (by repeat (first | exact Rem.here | apply Rem.there)))))
  exact S.litOwn (fun _ => rfl) (fun _ u hu => by simp [encT] at hu; rcases hu with rfl | rfl | rfl <;> rfl) [(⟨s, ⟨1, 1⟩⟩ : Term)] (enc := encT) rfl (by simp [maxLen])
end Go.Proofs.Ytcfialfgkkjlfaa
