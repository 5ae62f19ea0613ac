/- Contracts: letters and levels. -/
import Derived.Test.YtcfialfgkkjlfaaE6
set_option linter.unusedSimpArgs false
set_option linter.unusedVariables false
namespace Go.Proofs.Ytcfialfgkkjlfaa
open Go.RowKit Go.Sx Go.Sg
/-- Whether n is a level of series for d letters. -/
def lvl (d n : Int) : Bool := inB d 1 3 && (inB n 1 5 && (decide (d < 3) || decide (n < 5)))
theorem areLetters_ok (d : Int) (w0 : World) : Calls Try.prog 94 #[.int .i64 d] w0 fun e w' => e = .returned (.bool (inB d 1 3)) ∧ Chg [] w0 w' := by
  have S := St.start w0
  go_enter Try.func94, Try.ntmps94
  go_wp2_with (go_at_call 95; refine (within_ok _ _ _ _).mono ?_; rintro e w1 ⟨rfl, hc⟩; have S := S.step hc; clear hc)
  refine s_ret1 S (h := ?_)
  exact ⟨rfl, S.chg⟩
theorem isLevel_ok (d n : Int) (w0 : World) : Calls Try.prog 70 #[.int .i64 d, .int .i64 n] w0 fun e w' => e = .returned (.bool (lvl d n)) ∧ Chg [] w0 w' := by
  have S := St.start w0
  go_enter Try.func70, Try.ntmps70
  go_wp2_with (first
    | (go_at_call 95; refine (within_ok _ _ _ _).mono ?_; rintro e w1 ⟨rfl, hc⟩; have S := S.step hc; clear hc)
    | (go_at_call 94; refine (areLetters_ok _ _).mono ?_; rintro e w1 ⟨rfl, hc⟩; have S := S.step hc; clear hc))
  all_goals refine s_ret1 S (h := ?_)
  all_goals refine ⟨?_, S.chg⟩
  all_goals simp [lvl, *]
theorem l01Sizes_ok (d n : Int) (w0 : World) : Calls Try.prog 121 #[.int .i64 d, .int .i64 n] w0 fun e w' => e = .returned (.bool (lvl d n)) ∧ Chg [] w0 w' := by
  have S := St.start w0
  have e4 : decide (n ≤ 4) = decide (n < 5) := decide_eq_decide.2 (by omega)
  go_enter Try.func121, Try.ntmps121
  go_wp2_with (go_at_call 79; refine (l01In_ok _ _ _ _).mono ?_; rintro e w1 ⟨rfl, hc⟩; have S := S.step hc; clear hc)
  all_goals refine s_ret1 S (h := ?_)
  all_goals refine ⟨?_, S.chg⟩
  all_goals simp [lvl, e4, *]
end Go.Proofs.Ytcfialfgkkjlfaa
