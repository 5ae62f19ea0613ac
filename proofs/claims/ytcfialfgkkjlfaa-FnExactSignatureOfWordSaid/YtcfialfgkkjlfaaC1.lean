/- Contracts: numbers and fractions of the program. -/
import Derived.Test.YtcfialfgkkjlfaaTy
import Derived.Test.YtcfialfgkkjlfaaB1
import Derived.Test.YtcfialfgkkjlfaaA7
set_option linter.unusedSimpArgs false
set_option linter.unusedVariables false
namespace Go.Proofs.Ytcfialfgkkjlfaa
open Go.RowKit Go.Sx Go.Sg

def inB (n low high : Int) : Bool := decide (low ≤ n ∧ n ≤ high)
theorem inB_iff {n low high : Int} : inB n low high = true ↔ low ≤ n ∧ n ≤ high := by simp [inB]
theorem within_ok (n low high : Int) (w : World) : Calls Try.prog 95 #[.int .i64 n, .int .i64 low, .int .i64 high] w fun e w' => e = .returned (.bool (inB n low high)) ∧ Chg [] w w' := by
  go_enter Try.func95, Try.ntmps95
  go_wp2
  all_goals go_ret
  all_goals refine ⟨?_, Chg.refl _ _⟩
  all_goals (simp [inB, *] <;> omega)

theorem upTo_ok (n most : Int) (w : World) (h0 : 0 ≤ most) (h1 : most ≤ 4611686018427387904) : Calls Try.prog 127 #[.int .i64 n, .int .i64 most] w fun e w' => e = .returned (.bool (inB n (-most) most)) ∧ Chg [] w w' := by
  go_enter Try.func127, Try.ntmps127
  go_wp2_with (go_at_call 95; refine (within_ok _ _ _ _).mono ?_; rintro e w' ⟨rfl, hc⟩)
  go_ret
  exact ⟨rfl, hc⟩

theorem size_ok (n : Int) (w : World) (h0 : -9223372036854775807 ≤ n) (h1 : n ≤ 9223372036854775807) : Calls Try.prog 131 #[.int .i64 n] w fun e w' => e = .returned (.int .i64 (n.natAbs : Int)) ∧ Chg [] w w' := by
  go_enter Try.func131, Try.ntmps131
  go_wp2
  all_goals go_ret
  all_goals refine ⟨?_, Chg.refl _ _⟩
  all_goals simp
  all_goals omega

theorem common_ok (a b : Int) (w : World) (h0 : -9223372036854775807 ≤ a) (h1 : a ≤ 9223372036854775807) (h2 : -9223372036854775807 ≤ b) (h3 : b ≤ 9223372036854775807) :
    Calls Try.prog 165 #[.int .i64 a, .int .i64 b] w fun e w' => e = .returned (.int .i64 (gcd a b)) ∧ Chg [] w w' := by
  go_enter Try.func165, Try.ntmps165
  go_wp2_with (go_at_call 131; refine (size_ok _ _ (by omega) (by omega)).mono ?_; rintro e w1 ⟨rfl, hc⟩)
  have hc2 := hc
  clear hc
  go_loopw [0, 1] (fun x y wr => ∃ p q : Int, 0 ≤ p ∧ p ≤ 9223372036854775807 ∧ 0 ≤ q ∧ q ≤ 9223372036854775807 ∧ x = .int .i64 p ∧ y = .int .i64 q ∧ Hid (gcd p q = gcd a b) ∧ Chg [] w wr) (fun _ y _ => (intOf y).toNat)
  case atStart => exact ⟨_, _, by omega, by omega, by omega, by omega, rfl, rfl, hid (by simp [gcd, Int.gcd]), (by assumption : Chg [] w _).trans hc2⟩
  case round =>
    obtain ⟨p, q, hp0, hp1, hq0, hq1, rfl, rfl, hg, hc⟩ := hrel
    by_cases hq : q = 0
    · subst hq
      go_wp2
      go_ret
      exact ⟨by rw [← hg.out, gcd_zero]; simp; omega, hc⟩
    · have hq2 : (q != 0) = true := by simpa using hq
      have hq3 : 0 < q := by omega
      have hs := hid (gcd_step p q)
      have hm0 := Int.emod_nonneg p hq
      have hm1 := Int.emod_lt_of_pos p hq3
      go_wp2
      go_quiet (fail)
      go_wp2
      go_roundw
      case rel => exact ⟨q, p % q, hq0, hq1, hm0, by omega, rfl, rfl, hid (by rw [← Int.tmod_eq_emod_of_nonneg hp0, hs.out, hg.out]), hc.drewN _⟩
      case measure => simp [intOf]; omega

theorem isF_eq (a : Frac) : isF a = (inB a.den 1 1000000000 && (inB a.num (-1000000000) 1000000000 && (gcd a.num a.den == 1))) := by
  rw [Bool.eq_iff_iff]
  simp [isF, inB]
  omega
theorem IsFraction_ok (n d : Int) (w : World) : Calls Try.prog 163 #[.agg #[.int .i64 n, .int .i64 d]] w fun e w' => e = .returned (.bool (isF ⟨n, d⟩)) ∧ Chg [] w w' := by
  have S := St.start w
  go_enter Try.func163, Try.ntmps163
  go_wp2_with (first
   | ((with_reducible refine s_box S (h := ?_)); clear S; intro b w S hcN; clear hcN) | ((with_reducible refine s_alloc S (h := ?_)); clear S; intro b w S hcN; clear hcN) | (with_reducible refine s_load S (h := ?_)) | (with_reducible refine s_loadA S (h := ?_)) | ((with_reducible refine s_store S (h := ?_)); clear S; intro w S)
   | (go_at_call 95; refine (within_ok _ _ _ _).mono ?_; rintro e w1 ⟨rfl, hc⟩; have S := S.step hc; clear hc)
   | (go_at_call 127; refine (upTo_ok _ _ _ (by omega) (by omega)).mono ?_; rintro e w1 ⟨rfl, hc⟩; have S := S.step hc; clear hc)
   | (go_at_call 165; have hb := inB_iff.1 (by assumption : inB d 1 1000000000 = true); have hb2 := inB_iff.1 (by assumption : inB n (-1000000000) 1000000000 = true); refine (common_ok _ _ _ (by omega) (by omega) (by omega) (by omega)).mono ?_; rintro e w1 ⟨rfl, hc⟩; have S := S.step hc; clear hc hb hb2))
  all_goals refine s_ret1 S (h := ?_)
  all_goals refine ⟨?_, S.chg⟩
  all_goals simp [isF_eq, *]

theorem zero_ok (w : World) : Calls Try.prog 119 #[] w fun e w' => e = .returned (.agg #[.int .i64 0, .int .i64 1]) ∧ Chg [] w w' := by
  have S := St.start w
  go_enter Try.func119, Try.ntmps119
  go_wp2_with (first
   | ((with_reducible refine s_box S (h := ?_)); clear S; intro b w S hcN; clear hcN) | ((with_reducible refine s_alloc S (h := ?_)); clear S; intro b w S hcN; clear hcN) | (with_reducible refine s_load S (h := ?_)) | (with_reducible refine s_loadA S (h := ?_)) | ((with_reducible refine s_store S (h := ?_)); clear S; intro w S))
  refine s_ret1 S (h := ?_)
  exact ⟨rfl, S.chg⟩

theorem reduced_ok (n d : Int) (w : World) (h0 : -4611686018427387904 ≤ n) (h1 : n ≤ 4611686018427387904) (h2 : -4611686018427387904 ≤ d) (h3 : d ≤ 4611686018427387904) (hd : d ≠ 0) :
    Calls Try.prog 120 #[.int .i64 n, .int .i64 d] w fun e w' => e = .returned (.tuple #[.agg #[.int .i64 (red n d).num, .int .i64 (red n d).den], .bool (isF (red n d))]) ∧ Chg [] w w' := by
  have S := St.start w
  have hg := gcd_pos n d hd
  have hg2 := gcd_le n d hd
  have hg3 : gcd n d ≤ 4611686018427387904 := by omega
  clear hg2
  obtain ⟨qn1, qn2, qn3, qn4⟩ := tdiv_dvd n (gcd n d) _ h0 h1 (gcd_dvd_left n d) hg
  obtain ⟨qd1, qd2, qd3, qd4⟩ := tdiv_dvd d (gcd n d) _ h2 h3 (gcd_dvd_right n d) hg
  go_enter Try.func120, Try.ntmps120
  go_wp2_with (first
   | ((with_reducible refine s_box S (h := ?_)); clear S; intro b w S hcN; clear hcN) | ((with_reducible refine s_alloc S (h := ?_)); clear S; intro b w S hcN; clear hcN) | (with_reducible refine s_load S (h := ?_)) | (with_reducible refine s_loadA S (h := ?_)) | ((with_reducible refine s_store S (h := ?_)); clear S; intro w S)
   | (go_at_call 165; refine (common_ok _ _ _ (by omega) (by omega) (by omega) (by omega)).mono ?_; rintro e w1 ⟨rfl, hc⟩; have S := S.step hc; clear hc))
  · refine m_startS 9 [8] [0, 1, 2, 3, 4, 5, 6] S ?_
    clear S; intro w hQ S _
    (repeat (first | ((with_reducible apply m_P hQ); (case hn => repeat (with_reducible first | exact .zero | apply Nth.succ)); (case hc => kernel_rfl); (case hy => first | fail | (apply y_quo <;> first | rfl | assumption | omega) | (apply y_pure <;> first | rfl | (intro w'; go_simp; with_reducible rfl))); (case' h => simp only [Act.put, List.setIfInBounds_toArray, List.set_cons_zero, List.set_cons_succ])) | ((with_reducible apply m_R hQ); (case hn => repeat (with_reducible first | exact .zero | apply Nth.succ)); (case hc => kernel_rfl); (case hy => first | exact y_loadA S | exact y_load S | fail); (case' h => simp only [Act.put, List.setIfInBounds_toArray, List.set_cons_zero, List.set_cons_succ]))))
    (refine m_G 7 [] (by kernel_rfl) (by repeat (with_reducible first | exact .zero | apply Nth.succ)) ?_; go_wp2_with (first | ((with_reducible refine s_box S (h := ?_)); clear S; intro b w S hcN) | ((with_reducible refine s_alloc S (h := ?_)); clear S; intro b w S hcN) | (with_reducible refine s_load S (h := ?_)) | (with_reducible refine s_loadA S (h := ?_)) | ((with_reducible refine s_store S (h := ?_)); clear S; intro w S)); refine ⟨.inr hcN, ?_⟩; clear hcN; simp only [Act.put, List.setIfInBounds_toArray, List.set_cons_zero, List.set_cons_succ])
    (refine m_G 8 [] (by kernel_rfl) (by repeat (with_reducible first | exact .zero | apply Nth.succ)) ?_; go_wp2_with (first | ((with_reducible refine s_box S (h := ?_)); clear S; intro b w S hcN; clear hcN) | ((with_reducible refine s_alloc S (h := ?_)); clear S; intro b w S hcN; clear hcN) | (with_reducible refine s_load S (h := ?_)) | (with_reducible refine s_loadA S (h := ?_)) | ((with_reducible refine s_store S (h := ?_)); clear S; intro w S)); refine ⟨.inl rfl, ?_⟩; simp only [Act.put, List.setIfInBounds_toArray, List.set_cons_zero, List.set_cons_succ])
    (refine m_end (by kernel_rfl) ?_; refine (by assumption : ∀ a w, Code.wp _ _ _ a w → _) _ _ ?_)
    go_wp2
    refine m_startS 5 [3] [0, 1] S ?_
    clear S; intro w hQ S _
    (repeat (first | ((with_reducible apply m_P hQ); (case hn => repeat (with_reducible first | exact .zero | apply Nth.succ)); (case hc => kernel_rfl); (case hy => first | fail | (apply y_quo <;> first | rfl | assumption | omega) | (apply y_pure <;> first | rfl | (intro w'; go_simp; with_reducible rfl))); (case' h => simp only [Act.put, List.setIfInBounds_toArray, List.set_cons_zero, List.set_cons_succ])) | ((with_reducible apply m_R hQ); (case hn => repeat (with_reducible first | exact .zero | apply Nth.succ)); (case hc => kernel_rfl); (case hy => first | exact y_loadA S | exact y_load S | fail); (case' h => simp only [Act.put, List.setIfInBounds_toArray, List.set_cons_zero, List.set_cons_succ]))))
    refine m_G 2 [] (by kernel_rfl) (by repeat (with_reducible first | exact .zero | apply Nth.succ)) ?_
    go_wp2_with (go_at_call 163; refine (IsFraction_ok _ _ _).mono ?_; rintro e w1 ⟨rfl, hcN⟩; have S := S.step hcN)
    refine ⟨.inr hcN, ?_⟩; clear hcN; simp only [Act.put, List.setIfInBounds_toArray, List.set_cons_zero, List.set_cons_succ]
    (refine m_G 3 [] (by kernel_rfl) (by repeat (with_reducible first | exact .zero | apply Nth.succ)) ?_; go_wp2_with (first | ((with_reducible refine s_box S (h := ?_)); clear S; intro b w S hcN; clear hcN) | ((with_reducible refine s_alloc S (h := ?_)); clear S; intro b w S hcN; clear hcN) | (with_reducible refine s_load S (h := ?_)) | (with_reducible refine s_loadA S (h := ?_)) | ((with_reducible refine s_store S (h := ?_)); clear S; intro w S)); refine ⟨.inl rfl, ?_⟩; simp only [Act.put, List.setIfInBounds_toArray, List.set_cons_zero, List.set_cons_succ])
    (refine m_G 4 [] (by kernel_rfl) (by repeat (with_reducible first | exact .zero | apply Nth.succ)) ?_; go_wp2; refine ⟨.inr (Chg.refl _ _), ?_⟩; simp only [Act.put, List.setIfInBounds_toArray, List.set_cons_zero, List.set_cons_succ])
    (refine m_end (by kernel_rfl) ?_; refine (by assumption : ∀ a w, Code.wp _ _ _ a w → _) _ _ ?_)
    go_wp2_with (first | ((with_reducible refine s_box S (h := ?_)); clear S; intro b w S hcN; clear hcN) | ((with_reducible refine s_alloc S (h := ?_)); clear S; intro b w S hcN; clear hcN) | (with_reducible refine s_load S (h := ?_)) | (with_reducible refine s_loadA S (h := ?_)) | ((with_reducible refine s_store S (h := ?_)); clear S; intro w S))
    refine s_ret2 S (h := ?_)
    refine ⟨?_, S.chg⟩
    simp [red, *]
  · refine m_startS 9 [8] [0, 1, 2, 3, 4, 5, 6] S ?_
    clear S; intro w hQ S _
    (repeat (first | ((with_reducible apply m_P hQ); (case hn => repeat (with_reducible first | exact .zero | apply Nth.succ)); (case hc => kernel_rfl); (case hy => first | fail | (apply y_quo <;> first | rfl | assumption | omega) | (apply y_pure <;> first | rfl | (intro w'; go_simp; with_reducible rfl))); (case' h => simp only [Act.put, List.setIfInBounds_toArray, List.set_cons_zero, List.set_cons_succ])) | ((with_reducible apply m_R hQ); (case hn => repeat (with_reducible first | exact .zero | apply Nth.succ)); (case hc => kernel_rfl); (case hy => first | exact y_loadA S | exact y_load S | fail); (case' h => simp only [Act.put, List.setIfInBounds_toArray, List.set_cons_zero, List.set_cons_succ]))))
    (refine m_G 7 [] (by kernel_rfl) (by repeat (with_reducible first | exact .zero | apply Nth.succ)) ?_; go_wp2_with (first | ((with_reducible refine s_box S (h := ?_)); clear S; intro b w S hcN) | ((with_reducible refine s_alloc S (h := ?_)); clear S; intro b w S hcN) | (with_reducible refine s_load S (h := ?_)) | (with_reducible refine s_loadA S (h := ?_)) | ((with_reducible refine s_store S (h := ?_)); clear S; intro w S)); refine ⟨.inr hcN, ?_⟩; clear hcN; simp only [Act.put, List.setIfInBounds_toArray, List.set_cons_zero, List.set_cons_succ])
    (refine m_G 8 [] (by kernel_rfl) (by repeat (with_reducible first | exact .zero | apply Nth.succ)) ?_; go_wp2_with (first | ((with_reducible refine s_box S (h := ?_)); clear S; intro b w S hcN; clear hcN) | ((with_reducible refine s_alloc S (h := ?_)); clear S; intro b w S hcN; clear hcN) | (with_reducible refine s_load S (h := ?_)) | (with_reducible refine s_loadA S (h := ?_)) | ((with_reducible refine s_store S (h := ?_)); clear S; intro w S)); refine ⟨.inl rfl, ?_⟩; simp only [Act.put, List.setIfInBounds_toArray, List.set_cons_zero, List.set_cons_succ])
    (refine m_end (by kernel_rfl) ?_; refine (by assumption : ∀ a w, Code.wp _ _ _ a w → _) _ _ ?_)
    go_wp2
    refine m_startS 5 [3] [0, 1] S ?_
    clear S; intro w hQ S _
    (repeat (first | ((with_reducible apply m_P hQ); (case hn => repeat (with_reducible first | exact .zero | apply Nth.succ)); (case hc => kernel_rfl); (case hy => first | fail | (apply y_quo <;> first | rfl | assumption | omega) | (apply y_pure <;> first | rfl | (intro w'; go_simp; with_reducible rfl))); (case' h => simp only [Act.put, List.setIfInBounds_toArray, List.set_cons_zero, List.set_cons_succ])) | ((with_reducible apply m_R hQ); (case hn => repeat (with_reducible first | exact .zero | apply Nth.succ)); (case hc => kernel_rfl); (case hy => first | exact y_loadA S | exact y_load S | fail); (case' h => simp only [Act.put, List.setIfInBounds_toArray, List.set_cons_zero, List.set_cons_succ]))))
    refine m_G 2 [] (by kernel_rfl) (by repeat (with_reducible first | exact .zero | apply Nth.succ)) ?_
    go_wp2_with (go_at_call 163; refine (IsFraction_ok _ _ _).mono ?_; rintro e w1 ⟨rfl, hcN⟩; have S := S.step hcN)
    refine ⟨.inr hcN, ?_⟩; clear hcN; simp only [Act.put, List.setIfInBounds_toArray, List.set_cons_zero, List.set_cons_succ]
    (refine m_G 3 [] (by kernel_rfl) (by repeat (with_reducible first | exact .zero | apply Nth.succ)) ?_; go_wp2_with (first | ((with_reducible refine s_box S (h := ?_)); clear S; intro b w S hcN; clear hcN) | ((with_reducible refine s_alloc S (h := ?_)); clear S; intro b w S hcN; clear hcN) | (with_reducible refine s_load S (h := ?_)) | (with_reducible refine s_loadA S (h := ?_)) | ((with_reducible refine s_store S (h := ?_)); clear S; intro w S)); refine ⟨.inl rfl, ?_⟩; simp only [Act.put, List.setIfInBounds_toArray, List.set_cons_zero, List.set_cons_succ])
    (refine m_G 4 [] (by kernel_rfl) (by repeat (with_reducible first | exact .zero | apply Nth.succ)) ?_; go_wp2; refine ⟨.inr (Chg.refl _ _), ?_⟩; simp only [Act.put, List.setIfInBounds_toArray, List.set_cons_zero, List.set_cons_succ])
    (refine m_end (by kernel_rfl) ?_; refine (by assumption : ∀ a w, Code.wp _ _ _ a w → _) _ _ ?_)
    go_wp2_with (first | ((with_reducible refine s_box S (h := ?_)); clear S; intro b w S hcN; clear hcN) | ((with_reducible refine s_alloc S (h := ?_)); clear S; intro b w S hcN; clear hcN) | (with_reducible refine s_load S (h := ?_)) | (with_reducible refine s_loadA S (h := ?_)) | ((with_reducible refine s_store S (h := ?_)); clear S; intro w S))
    refine s_ret2 S (h := ?_)
    refine ⟨?_, S.chg⟩
    have hnd : ¬ d < 0 := by omega
    simp [red, hnd]
end Go.Proofs.Ytcfialfgkkjlfaa
