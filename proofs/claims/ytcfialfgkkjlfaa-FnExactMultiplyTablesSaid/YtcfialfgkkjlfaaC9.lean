/- The walk through the law FnExactMultiplyTables: it returns true. -/
import Derived.Test.YtcfialfgkkjlfaaC8
import Derived.Test.YtcfialfgkkjlfaaB4
set_option linter.unusedSimpArgs false
set_option linter.unusedVariables false
namespace Go.Proofs.Ytcfialfgkkjlfaa
open Go.RowKit Go.Sx Go.Sg

theorem mulOut_tot (a b : List (List Frac)) : tot ((mulOut a b).1.getD []) ≤ 36 := by
  unfold mulOut
  split
  · rename_i h
    rw [Bool.and_eq_true] at h
    obtain ⟨_, h2, _⟩ := sqF_b h.1
    split
    · rename_i t ht
      have h3 := tabU_tot ht
      have h4 : a.length * a.length ≤ 6 * 6 := Nat.mul_le_mul h2 h2
      show tot t ≤ 36
      omega
    · show tot [] ≤ 36
      simp [tot]
  · show tot [] ≤ 36
    simp [tot]
theorem markSS' (xs : List (List Frac)) (v : Value) (k : Int) (bs M : List Nat) (w : World) (S : St M w w [own 84 (sl 76 dFrac) v xs bs]) (hk0 : 0 ≤ k) (hk1 : k + 2 * tot xs ≤ 4611686018427387904) :
    Calls Try.prog 14 #[v, .int .i64 k] w fun e w' => e = .returned (.int .i64 (k + 2 * tot xs)) ∧ ∃ bs', St M w w' [own 84 (sl 76 dFrac) v ((mkL mkFrac).marks xs k) bs'] := by
  have h := markFractionSS_ok xs v k bs M w S hk0 (by rw [nextsSS_frac]; exact hk1)
  rwa [nextsSS_frac] at h
theorem heldSS' (xs : List (List Frac)) (v : Value) (k : Int) (w : World) (hR : Rd (sl 84 (sl 76 dFrac)) w ((mkL mkFrac).marks xs k) [v]) (hk0 : 0 ≤ k) (hk1 : k + 2 * tot xs ≤ 4611686018427387904) :
    Calls Try.prog 15 #[v, .int .i64 k] w fun e w' => e = .returned (.int .i64 (k + 2 * tot xs)) ∧ Chg [] w w' := by
  have h := heldFractionSS_ok xs v k w hR hk0 (by rw [nextsSS_frac]; exact hk1)
  rwa [nextsSS_frac] at h
set_option maxRecDepth 100000 in
set_option maxHeartbeats 1600000 in
theorem FnExactMultiplyTables_ok (a b : List (List Frac)) (v1 v2 : Value) (w0 : World) (hR : Rd (sl 82 (sl 140 dFrac)) w0 a [v1]) (hR2 : Rd (sl 82 (sl 140 dFrac)) w0 b [v2]) :
    Calls Try.prog 3 #[v1, v2] w0 fun e w' => e = .returned (.bool true) ∧ Chg [] w0 w' := by
  have S := St.start w0
  have c1 := fun w => szFractionSS_ok a 1048576 v1 w
  have c2 := fun w => szFractionSS_ok b (szSS szRow a 1048576) v2 w
  have f1 := @szSS_tot Frac a 1048576
  have f2 := @szSS_tot Frac b (szSS szRow a 1048576)
  have cS := specMultiplyTables_ok a b
  have cI := MultiplyTables_ok a b
  have h36 := mulOut_tot a b
  generalize szSS szRow a 1048576 = l1 at *
  generalize szSS szRow b l1 = l2 at *
  generalize (mulOut a b).1.getD [] = t at *
  generalize (mulOut a b).2 = cd at *
  by_cases hs1 : l1 < 0
  · go_enter Try.func3, Try.ntmps3
    go_wp2_with (go_at_call 9; refine (c1 _ (S.rd hR) (by omega) (by omega)).mono ?_; rintro e w1 ⟨rfl, hc⟩; have S := S.step hc; clear hc)
    refine s_ret1 S (h := ?_)
    exact ⟨rfl, S.chg⟩
  replace f1 := hid (f1 (by omega))
  have hl1 : l1 ≤ 1048576 := by have := f1.out; omega
  by_cases hs2 : l2 < 0
  · go_enter Try.func3, Try.ntmps3
    go_wp2_with (go_at_call 9; (first | (with_reducible refine (c1 _ (S.rd hR) (by omega) (by omega)).mono ?_) | (with_reducible refine (c2 _ (S.rd hR2) (by omega) (by omega)).mono ?_)); rintro e w1 ⟨rfl, hc⟩; have S := S.step hc; clear hc)
    refine s_ret1 S (h := ?_)
    exact ⟨rfl, S.chg⟩
  replace f2 := hid (f2 (by omega))
  have ta : tot a ≤ 1048576 := by have := f1.out; omega
  have tb : tot b ≤ 1048576 := by have := f2.out; omega
  have ha1 : a.length * 24 ≤ 281474976710656 := by have := f1.out; omega
  have hb1 : b.length * 24 ≤ 281474976710656 := by have := f2.out; omega
  have ha2 : ∀ x ∈ a, x.length * 16 ≤ 281474976710656 := fun x hx => by have := tot_mem hx; omega
  have hb2 : ∀ x ∈ b, x.length * 16 ≤ 281474976710656 := fun x hx => by have := tot_mem hx; omega
  go_enter Try.func3, Try.ntmps3
  go_wp2_with (first
    | (go_at_call 9; (first | (with_reducible refine (c1 _ (S.rd hR) (by omega) (by omega)).mono ?_) | (with_reducible refine (c2 _ (S.rd hR2) (by omega) (by omega)).mono ?_)); rintro e w1 ⟨rfl, hc⟩; have S := S.step hc; clear hc)
    | (go_at_call 11; (first | (with_reducible refine (toFractionSS_ok a v1 _ (S.rd hR) ha1 ha2).mono ?_) | (with_reducible refine (toFractionSS_ok b v2 _ (S.rd hR2) hb1 hb2).mono ?_)); rintro e w1 ⟨v, bs, rfl, T⟩; have S := S.grow1 T; clear T)
    | (go_at_call 10; refine (cS _ _ _ S.rd1 S.rd0).mono ?_; rintro e w1 ⟨v, bs, rfl, T⟩; have S := S.grow1 T; clear T)
    | (go_at_call 12; refine (cI _ _ _ S.rd1 S.rd0).mono ?_; rintro e w1 ⟨v, bs, rfl, T⟩; have S := S.grow1 T; clear T)
    | (go_at_call 13; (first
        | (with_reducible refine (eqFractionSS_ok t _ _ _ S.rd0 S.rd3).mono ?_)
        | (with_reducible refine (eqFractionSS_ok a _ _ _ S.rd3 S.rd0).mono ?_)
        | (with_reducible refine (eqFractionSS_ok b _ _ _ S.rd3 S.rd0).mono ?_)
        | (with_reducible refine (eqFractionSS_ok t _ _ _ S.rd4 S.rd5).mono ?_)
        | (with_reducible refine (eqFractionSS_ok t _ _ _ S.rd0 S.rd8).mono ?_)); rintro e w1 ⟨rfl, hc⟩; have S := S.step hc; clear hc)
    | (go_at_call 14; refine (markSS' _ _ _ _ _ _ (S.piece (.keep (.keep (.keep (.keep (.take (Split.none _))))))) (by omega) (by omega)).mono ?_; rintro e w1 ⟨rfl, bs', T⟩; have S := S.call1 (.keep (.keep (.keep (.keep (.take (Split.none _)))))) T; clear T)
    | (go_at_call 15; (first
        | (with_reducible refine (heldSS' t _ 1 _ S.rd0 (by omega) (by omega)).mono ?_)
        | (with_reducible refine (heldSS' t _ 1 _ S.rd3 (by omega) (by omega)).mono ?_)); rintro e w1 ⟨rfl, hc⟩; have S := S.step hc; clear hc))
  refine s_ret1 S (h := ?_)
  exact ⟨rfl, S.chg⟩
end Go.Proofs.Ytcfialfgkkjlfaa
