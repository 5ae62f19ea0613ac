/-
  'laws.FnExactSignatureOfWord' returns true whatever the numbers of letters and levels and the list of whole numbers are, and writes nothing that was there.
  No condition beside the statement's own.
-/
import Derived.Test.YtcfialfgkkjlfaaRows
import Derived.Test.YtcfialfgkkjlfaaP6
import Derived.Test.YtcfialfgkkjlfaaD1
import Derived.WalkKit
import Derived.ProofKit
import Derived.OpenShut
import Derived.ChangeOld
import Derived.Below
namespace Go.Proofs.Ytcfialfgkkjlfaa
open Go.RowKit Go.Sx Go.Sg
set_option linter.unusedSimpArgs false
set_option linter.unusedVariables false
theorem SignatureOfWord_both (d n : Int) (xs : List Int) : ∃ (D N : Int) (ts : List Term) (cd : Int), ts.length ≤ 1000 ∧
    (∀ v w0, Rd (sl 2 dInt) w0 xs [v] → Calls Try.prog 20 #[.int .i64 d, .int .i64 n, v] w0 fun e w' => ∃ v bs, e = .returned (.tuple #[.agg #[.int .i64 D, .int .i64 N, v], .int .i64 cd]) ∧ St [] w0 w' [serV v ts bs]) ∧
    (∀ v w0, Rd (sl 2 dInt) w0 xs [v] → Calls Try.prog 21 #[.int .i64 d, .int .i64 n, v] w0 fun e w' => ∃ v bs, e = .returned (.tuple #[.agg #[.int .i64 D, .int .i64 N, v], .int .i64 cd]) ∧ St [] w0 w' [serV v ts bs]) := by
  cases h : (isGW d xs && lvl d n)
  · exact ⟨0, 0, [], 2, by simp, fun v w0 hR => (SignatureOfWordS_no d n xs v w0 hR h).mono fun e w' ⟨he, hT⟩ => ⟨_, _, he, hT⟩, fun v w0 hR => (SignatureOfWord_no d n xs v w0 hR h).mono fun e w' ⟨he, hT⟩ => ⟨_, _, he, hT⟩⟩
  · rw [Bool.and_eq_true] at h
    obtain ⟨hb, hs⟩ := gw_plain h.1 h.2
    have e : gwS d n (xs.take xs.length) = gwS d n xs := by rw [List.take_length]
    have h1 := hs.2.1 xs.length
    try simp only at h1
    rw [e] at h1
    refine ⟨d, n, gwS d n xs, 0, h1, fun v w0 hR => ?_, fun v w0 hR => SignatureOfWord_yes d n xs v w0 hR h.1 h.2 hb⟩
    have hc := SignatureOfWordS_yes d n xs v w0 hR h.1 h.2 _ hs
    try simp only at hc
    rw [e] at hc
    exact hc
theorem markI (xs : List Int) (v : Value) (k : Int) (bs M : List Nat) (w : World) (S : St M w w [own 2 dInt v xs bs]) (hk0 : 0 ≤ k) (hk1 : k + xs.length ≤ 4611686018427387904) :
    Calls Try.prog 23 #[v, .int .i64 k] w fun e w' => e = .returned (.int .i64 (k + xs.length)) ∧ ∃ zs bs', St M w w' [own 2 dInt v zs bs'] := by
  have h := markInt64S_ok xs v k bs M w S hk0 (by rw [nexts_int]; exact hk1)
  rw [nexts_int] at h
  exact h.mono fun e w' ⟨he, hT⟩ => ⟨he, _, _, hT⟩
theorem markS (d n : Int) (xs : List Term) (v : Value) (k : Int) (bs M : List Nat) (w0 : World) (S : St M w0 w0 [own 98 dTerm v xs bs]) (hk0 : 0 < k) (hk1 : k + 3 * xs.length ≤ 4611686018427387904) :
    Calls Try.prog 24 #[.agg #[.int .i64 d, .int .i64 n, v], .int .i64 k] w0 fun e w' => e = .returned (.int .i64 (k + 3 * xs.length)) ∧ ∃ bs', St M w0 w' [own 98 dTerm v (mkTerm.marks xs k) bs'] :=
  (markSeries_ok d n xs v k bs M w0 S hk0 hk1).mono fun e w' ⟨he, hT⟩ => ⟨he, _, hT⟩
set_option maxRecDepth 100000 in
set_option maxHeartbeats 1600000 in
theorem FnExactSignatureOfWord_ok (d n : Int) (xs : List Int) (v : Value) (w0 : World) (hR : Rd (sl 2 dInt) w0 xs [v]) :
    Calls Try.prog 5 #[.int .i64 d, .int .i64 n, v] w0 fun e w' => e = .returned (.bool true) ∧ Chg [] w0 w' := by
  have S := St.start w0
  obtain ⟨D, N, ts, cd, hlen, cS, cI⟩ := SignatureOfWord_both d n xs
  obtain ⟨A, c, rfl, hc1, hc2⟩ := hR.slice
  unfold maxLen at hc2
  by_cases hs : 1048576 < xs.length
  · go_enter Try.func5, Try.ntmps5
    go_wp2
    refine s_ret1 S (h := ?_)
    exact ⟨rfl, S.chg⟩
  go_enter Try.func5, Try.ntmps5
  go_wp2_with (first
    | (go_at_call 17; refine (toInt64S_ok xs _ _ (S.rd hR) (by omega)).mono ?_; rintro e w1 ⟨v1, bs1, rfl, T⟩; have S := S.grow1 T; clear T)
    | (go_at_call 20; refine (cS _ _ S.rd0).mono ?_; rintro e w1 ⟨v2, bs2, rfl, T⟩; have S := S.grow1 T; clear T; obtain ⟨A2, c2, rfl, -, -⟩ := own_slice S (.head _))
    | (go_at_call 21; refine (cI _ _ S.rd0).mono ?_; rintro e w1 ⟨v2, bs2, rfl, T⟩; have S := S.grow1 T; clear T; obtain ⟨A2, c2, rfl, -, -⟩ := own_slice S (.head _))
    | (go_at_call 19; refine (eqInt64S_ok xs _ _ _ S.rd3 S.rd0).mono ?_; rintro e w1 ⟨rfl, hc⟩; have S := S.step hc; clear hc)
    | (go_at_call 22; (first
        | (with_reducible refine (eqSeries_ok D N ts _ _ _ S.rd1 S.rd4).mono ?_)
        | (with_reducible refine (eqSeries_ok D N ts _ _ _ S.rd3 S.rd5).mono ?_)
        | (with_reducible refine (eqSeries_ok D N ts _ _ _ S.rd1 S.rd8).mono ?_)); rintro e w1 ⟨rfl, hc⟩; have S := S.step hc; clear hc)
    | (go_at_call 23; refine (markI _ _ _ _ _ _ (S.piece (.keep (.keep (.keep (.take (Split.none _)))))) (by omega) (by omega)).mono ?_; rintro e w1 ⟨rfl, zs, bs', T⟩; have S := S.call1 (.keep (.keep (.keep (.take (Split.none _))))) T; clear T)
    | (go_at_call 24; refine (markS D N _ _ _ _ _ _ (S.piece (.keep (.keep (.keep (.take (Split.none _)))))) (by omega) (by omega)).mono ?_; rintro e w1 ⟨rfl, bs', T⟩; have S := S.call1 (.keep (.keep (.keep (.take (Split.none _))))) T; clear T)
    | (go_at_call 25; (first
        | (with_reducible refine (heldSeries_ok D N ts _ 1 _ S.rd0 (by omega) (by omega)).mono ?_)
        | (with_reducible refine (heldSeries_ok D N ts _ 1 _ S.rd3 (by omega) (by omega)).mono ?_)); rintro e w1 ⟨rfl, hc⟩; have S := S.step hc; clear hc)
    | ((with_reducible refine s_box S (h := ?_)); clear S; intro b w S hcN; clear hcN) | ((with_reducible refine s_alloc S (h := ?_)); clear S; intro b w S hcN; clear hcN) | (with_reducible refine s_load S (h := ?_)) | (with_reducible refine s_loadA S (h := ?_)) | ((with_reducible refine s_store S (h := ?_)); clear S; intro w S))
  refine s_ret1 S (h := ?_)
  exact ⟨rfl, S.chg⟩
end Go.Proofs.Ytcfialfgkkjlfaa
namespace Go.Proofs.Ytcfialfgkkjlfaa.fnExactSignatureOfWord
open Go.ChangeShapes Go.WideShapes Go.ChangeAt Go.RowKit
open Go.Sx Go.Sg
set_option linter.unusedVariables false

theorem own : ownKnob Try.prog.godebug = none := by kernel_rfl
theorem laidOut : laidOutB Try.prog = true := by kernel_rfl
theorem opensI : Opens Try.prog 2 dInt := Opens.int Try.underlying2
theorem opensIS : Opens Try.prog 31 (sl 2 dInt) := Opens.slice Try.underlying31 (by kernel_rfl) (by decide) opensI

set_option maxRecDepth 100000 in
theorem lifted (os : Os) (started : os.Started) (H : Type) (enc : TypeId × Value → H) :
    ReturnsInHanded {} Try.checked os 5 .any (Rows.fnExactSignatureOfWordSpec.pre6 enc Try.prog Try.f5 Rows.fnExactSignatureOfWordRow.domain false) (Rows.fnExactSignatureOfWordSpec.post enc Try.prog Try.f5 false true false false) := by
  refine returnsInHanded_of_change (C := Try.checked) own started (by kernel_rfl) Try.func5
    (ChangeSpec.witness6 (enc := enc) (C := Try.checked) false ⟨#[], #[.int .i64 0, .int .i64 0, .slice none 0 0], []⟩ 8 (by kernel_rfl) (by kernel_rfl) (by kernel_rfl) (by kernel_rfl)) ?_
  intro W base args ds gs before hval0 hW hcnd _
  have hval : ∀ (j : Nat) t v, (Try.f5).params[j]? = some t → args[j]? = some v → Value.okWide Try.prog W .any base t v := hval0
  have hW' := hW
  obtain ⟨p, q, hA0, hV, rfl, hfz, hnd⟩ := hW
  have hA : DataW.TrodAll enc Try.prog W 0 (fun _ => true) true (Try.f5).params.toList args.toList ds p := hA0
  rw [Try.params5] at hA hval
  obtain ⟨v0, vs0, d0, ds0, p0, q0, hargs, rfl, rfl, h0, r0⟩ := trodAll_cons hA
  obtain ⟨v1, vs1, d1, ds1, p1, q1, rfl, rfl, rfl, h1, r1⟩ := trodAll_cons r0
  obtain ⟨v2, vs2, d2, ds2, p2, q2, rfl, rfl, rfl, h2, r2⟩ := trodAll_cons r1
  obtain ⟨rfl, rfl, rfl⟩ := trodAll_nil r2
  obtain rfl : args = #[v0, v1, v2] := by cases args; simp_all
  obtain ⟨rfl, rfl⟩ := trodVars_none hV
  obtain ⟨a0, rfl, w0⟩ := okWide_int Try.underlying2 (hval 0 2 v0 rfl rfl)
  obtain ⟨a1, rfl, w1⟩ := okWide_int Try.underlying2 (hval 1 2 v1 rfl rfl)
  obtain ⟨A2, len2, cap2, rfl⟩ := okWide_slice Try.underlying31 (hval 2 31 v2 rfl rfl)
  have k0 := h0
  have k1 := h1
  have k2 := h2
  have lt0 : ∀ x ∈ p0, x.block < W.heap.size := by obtain ⟨m, hm⟩ := k0; exact DataW.trod_lt m _ _ _ hm
  have lt1 : ∀ x ∈ p1, x.block < W.heap.size := by obtain ⟨m, hm⟩ := k1; exact DataW.trod_lt m _ _ _ hm
  have lt2 : ∀ x ∈ p2, x.block < W.heap.size := by obtain ⟨m, hm⟩ := k2; exact DataW.trod_lt m _ _ _ hm
  obtain ⟨x2, hR2⟩ : ∃ y, Rd (sl 2 dInt) W y [.slice A2 len2 cap2] := by
    obtain ⟨fuel, hf⟩ := h2
    exact opensIS (by simpa [Value.cells] using hf)
  clear hA0 hval0
  refine (FnExactSignatureOfWord_ok a0 a1 x2 _ W hR2).mono fun e W' ⟨he, hc⟩ => ?_
  have bel := hc.below
  subst he
  exact ⟨_, rfl, _, _, _, [], _, [], hW', trodAll_mk1 (shut_bool Try.underlying4 _), (trodAll_cons_mk (Below.trod laidOut (by kernel_rfl) (of_decide_eq_true (by kernel_rfl)) k0 bel lt0) (trodAll_cons_mk (Below.trod laidOut (by kernel_rfl) (of_decide_eq_true (by kernel_rfl)) k1 bel lt1) (trodAll_cons_mk (Below.trod laidOut (by kernel_rfl) (of_decide_eq_true (by kernel_rfl)) k2 bel lt2) trodAll_mk0))), rfl, bel.frame _, fun h => by cases h⟩

theorem over : Rows.fnExactSignatureOfWordRow.holds Try.pinned (OpenSpec.ofChange Rows.fnExactSignatureOfWordSpec) :=
  OpenClaim.holds_of_wide 5 Try.f5 rfl rfl rfl rfl rfl rfl rfl ⟨rfl, rfl, rfl, rfl, rfl⟩ rfl rfl rfl rfl rfl (by kernel_rfl) Try.func5 (by kernel_rfl)
    (of_decide_eq_true (by kernel_rfl)) (by unfold Func.isWrapper; first | (rw [if_pos (by decide +kernel)]; kernel_rfl) | (rw [if_neg (by decide +kernel)]; exact ⟨rfl, rfl⟩))
    (fun os started H enc _ => lifted os started H enc)

/-- The statement. -/
theorem proved : Rows.FnExactSignatureOfWordSaid := over
end Go.Proofs.Ytcfialfgkkjlfaa.fnExactSignatureOfWord
