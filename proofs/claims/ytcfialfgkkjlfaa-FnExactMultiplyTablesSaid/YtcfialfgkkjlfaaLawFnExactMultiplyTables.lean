/-
  'laws.FnExactMultiplyTables' returns true whatever its two matrices of fractions are, and writes nothing that was there: the program's MultiplyTables returns what the reference's returns.
  No condition beside the statement's own.
-/
import Derived.Test.YtcfialfgkkjlfaaRows
import Derived.Test.YtcfialfgkkjlfaaC9
import Derived.Test.YtcfialfgkkjlfaaD1
import Derived.WalkKit
import Derived.ProofKit
import Derived.OpenShut
import Derived.ChangeOld
import Derived.Below
namespace Go.Proofs.Ytcfialfgkkjlfaa.fnExactMultiplyTables
open Go.ChangeShapes Go.WideShapes Go.ChangeAt Go.RowKit
open Go.Sx Go.Sg
set_option linter.unusedVariables false

theorem own : ownKnob Try.prog.godebug = none := by kernel_rfl
theorem laidOut : laidOutB Try.prog = true := by kernel_rfl
theorem opensF : Opens Try.prog 140 dFrac := Opens.frac (e := 2) Try.underlying140 rfl rfl rfl rfl (by kernel_rfl) (by kernel_rfl) Try.underlying2
theorem opensFS : Opens Try.prog 82 (sl 140 dFrac) := Opens.slice Try.underlying82 (by kernel_rfl) (by decide) opensF
theorem opensFSS : Opens Try.prog 22 (sl 82 (sl 140 dFrac)) := Opens.slice Try.underlying22 (by kernel_rfl) (by decide) opensFS

set_option maxRecDepth 100000 in
theorem lifted (os : Os) (started : os.Started) (H : Type) (enc : TypeId × Value → H) :
    ReturnsInHanded {} Try.checked os 3 .any (Rows.fnExactMultiplyTablesSpec.pre6 enc Try.prog Try.f3 Rows.fnExactMultiplyTablesRow.domain false) (Rows.fnExactMultiplyTablesSpec.post enc Try.prog Try.f3 false true false false) := by
  refine returnsInHanded_of_change (C := Try.checked) own started (by kernel_rfl) Try.func3
    (ChangeSpec.witness6 (enc := enc) (C := Try.checked) false ⟨#[], #[.slice none 0 0, .slice none 0 0], []⟩ 8 (by kernel_rfl) (by kernel_rfl) (by kernel_rfl) (by kernel_rfl)) ?_
  intro W base args ds gs before hval0 hW hcnd _
  have hval : ∀ (j : Nat) t v, (Try.f3).params[j]? = some t → args[j]? = some v → Value.okWide Try.prog W .any base t v := hval0
  have hW' := hW
  obtain ⟨p, q, hA0, hV, rfl, hfz, hnd⟩ := hW
  have hA : DataW.TrodAll enc Try.prog W 0 (fun _ => true) true (Try.f3).params.toList args.toList ds p := hA0
  rw [Try.params3] at hA hval
  obtain ⟨v0, vs0, d0, ds0, p0, q0, hargs, rfl, rfl, h0, r0⟩ := trodAll_cons hA
  obtain ⟨v1, vs1, d1, ds1, p1, q1, rfl, rfl, rfl, h1, r1⟩ := trodAll_cons r0
  obtain ⟨rfl, rfl, rfl⟩ := trodAll_nil r1
  obtain rfl : args = #[v0, v1] := by cases args; simp_all
  obtain ⟨rfl, rfl⟩ := trodVars_none hV
  obtain ⟨A0, len0, cap0, rfl⟩ := okWide_slice Try.underlying22 (hval 0 22 v0 rfl rfl)
  obtain ⟨A1, len1, cap1, rfl⟩ := okWide_slice Try.underlying22 (hval 1 22 v1 rfl rfl)
  have k0 := h0
  have k1 := h1
  have lt0 : ∀ x ∈ p0, x.block < W.heap.size := by obtain ⟨m, hm⟩ := k0; exact DataW.trod_lt m _ _ _ hm
  have lt1 : ∀ x ∈ p1, x.block < W.heap.size := by obtain ⟨m, hm⟩ := k1; exact DataW.trod_lt m _ _ _ hm
  obtain ⟨x0, hR0⟩ : ∃ y, Rd (sl 82 (sl 140 dFrac)) W y [.slice A0 len0 cap0] := by
    obtain ⟨fuel, hf⟩ := h0
    exact opensFSS (by simpa [Value.cells] using hf)
  obtain ⟨x1, hR1⟩ : ∃ y, Rd (sl 82 (sl 140 dFrac)) W y [.slice A1 len1 cap1] := by
    obtain ⟨fuel, hf⟩ := h1
    exact opensFSS (by simpa [Value.cells] using hf)
  clear hA0 hval0
  refine (FnExactMultiplyTables_ok x0 x1 _ _ W hR0 hR1).mono fun e W' ⟨he, hc⟩ => ?_
  have bel := hc.below
  subst he
  exact ⟨_, rfl, _, _, _, [], _, [], hW', trodAll_mk1 (shut_bool Try.underlying4 _), (trodAll_cons_mk (Below.trod laidOut (by kernel_rfl) (of_decide_eq_true (by kernel_rfl)) k0 bel lt0) (trodAll_cons_mk (Below.trod laidOut (by kernel_rfl) (of_decide_eq_true (by kernel_rfl)) k1 bel lt1) trodAll_mk0)), rfl, bel.frame _, fun h => by cases h⟩

theorem over : Rows.fnExactMultiplyTablesRow.holds Try.pinned (OpenSpec.ofChange Rows.fnExactMultiplyTablesSpec) :=
  OpenClaim.holds_of_wide 3 Try.f3 rfl rfl rfl rfl rfl rfl rfl ⟨rfl, rfl, rfl, rfl, rfl⟩ rfl rfl rfl rfl rfl (by kernel_rfl) Try.func3 (by kernel_rfl)
    (of_decide_eq_true (by kernel_rfl)) (by unfold Func.isWrapper; first | (rw [if_pos (by decide +kernel)]; kernel_rfl) | (rw [if_neg (by decide +kernel)]; exact ⟨rfl, rfl⟩))
    (fun os started H enc _ => lifted os started H enc)

/-- The statement. -/
theorem proved : Rows.FnExactMultiplyTablesSaid := over
end Go.Proofs.Ytcfialfgkkjlfaa.fnExactMultiplyTables
