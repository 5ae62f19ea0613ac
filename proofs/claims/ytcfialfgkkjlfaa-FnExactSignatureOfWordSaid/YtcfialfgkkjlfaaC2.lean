/- Contracts: fractions, on both sides. -/
import Derived.Test.YtcfialfgkkjlfaaC1
set_option linter.unusedSimpArgs false
set_option linter.unusedVariables false
namespace Go.Proofs.Ytcfialfgkkjlfaa
open Go.RowKit Go.Sx Go.Sg

theorem times_ok (a b : Frac) (w : World) (ha : isF a = true) (hb : isF b = true) :
    Calls Try.prog 61 #[.agg #[.int .i64 a.num, .int .i64 a.den], .agg #[.int .i64 b.num, .int .i64 b.den]] w fun e w' => e = .returned (.tuple #[.agg #[.int .i64 (mulR a b).num, .int .i64 (mulR a b).den], .bool (isF (mulR a b))]) ∧ Chg [] w w' := by
  have S := St.start w
  have hA := isF_b ha
  have hB := isF_b hb
  have h1 := mul_18 (a := a.num) (b := b.num) (by omega) (by omega) (by omega) (by omega)
  have h2 := mul_18 (a := a.den) (b := b.den) (by omega) (by omega) (by omega) (by omega)
  have h3 : 0 < a.den * b.den := Int.mul_pos (by omega) (by omega)
  go_enter Try.func61, Try.ntmps61
  go_wp2_with (first
   | ((with_reducible refine s_box S (h := ?_)); clear S; intro b w S hcN; clear hcN) | ((with_reducible refine s_alloc S (h := ?_)); clear S; intro b w S hcN; clear hcN) | (with_reducible refine s_load S (h := ?_)) | (with_reducible refine s_loadA S (h := ?_)) | ((with_reducible refine s_store S (h := ?_)); clear S; intro w S)
   | (go_at_call 120; refine (reduced_ok _ _ _ (by omega) (by omega) (by omega) (by omega) (by omega)).mono ?_; rintro e w1 ⟨rfl, hc⟩; have S := S.step hc; clear hc))
  refine s_ret2 S (h := ?_)
  exact ⟨rfl, S.chg⟩
theorem plus_ok (a b : Frac) (w : World) (ha : isF a = true) (hb : isF b = true) :
    Calls Try.prog 62 #[.agg #[.int .i64 a.num, .int .i64 a.den], .agg #[.int .i64 b.num, .int .i64 b.den]] w fun e w' => e = .returned (.tuple #[.agg #[.int .i64 (addR a b).num, .int .i64 (addR a b).den], .bool (isF (addR a b))]) ∧ Chg [] w w' := by
  have S := St.start w
  have hA := isF_b ha
  have hB := isF_b hb
  have h1 := mul_18 (a := a.num) (b := b.den) (by omega) (by omega) (by omega) (by omega)
  have h1' := mul_18 (a := b.num) (b := a.den) (by omega) (by omega) (by omega) (by omega)
  have h2 := mul_18 (a := a.den) (b := b.den) (by omega) (by omega) (by omega) (by omega)
  have h3 : 0 < a.den * b.den := Int.mul_pos (by omega) (by omega)
  go_enter Try.func62, Try.ntmps62
  go_wp2_with (first
   | ((with_reducible refine s_box S (h := ?_)); clear S; intro b w S hcN; clear hcN) | ((with_reducible refine s_alloc S (h := ?_)); clear S; intro b w S hcN; clear hcN) | (with_reducible refine s_load S (h := ?_)) | (with_reducible refine s_loadA S (h := ?_)) | ((with_reducible refine s_store S (h := ?_)); clear S; intro w S)
   | (go_at_call 120; refine (reduced_ok _ _ _ (by omega) (by omega) (by omega) (by omega) (by omega)).mono ?_; rintro e w1 ⟨rfl, hc⟩; have S := S.step hc; clear hc))
  refine s_ret2 S (h := ?_)
  exact ⟨rfl, S.chg⟩

theorem l01In_ok (n low high : Int) (w : World) : Calls Try.prog 79 #[.int .i64 n, .int .i64 low, .int .i64 high] w fun e w' => e = .returned (.bool (inB n low high)) ∧ Chg [] w w' := by
  go_enter Try.func79, Try.ntmps79
  go_wp2
  all_goals go_ret
  all_goals refine ⟨?_, Chg.refl _ _⟩
  all_goals (simp [inB, *] <;> omega)

theorem l01Gcd_ok (a b : Int) (w : World) (h0 : -9223372036854775807 ≤ a) (h1 : a ≤ 9223372036854775807) (h2 : -9223372036854775807 ≤ b) (h3 : b ≤ 9223372036854775807) :
    Calls Try.prog 159 #[.int .i64 a, .int .i64 b] w fun e w' => e = .returned (.int .i64 (gcd a b)) ∧ Chg [] w w' := by
  go_enter Try.func159, Try.ntmps159
  go_wp2
  go_loopw [0, 1] (fun x y wr => ∃ p q : Int, -9223372036854775807 ≤ p ∧ p ≤ 9223372036854775807 ∧ -9223372036854775807 ≤ q ∧ q ≤ 9223372036854775807 ∧ x = .int .i64 p ∧ y = .int .i64 q ∧ Hid (gcd p q = gcd a b) ∧ Chg [] w wr) (fun _ y _ => (intOf y).natAbs)
  case atStart => exact ⟨_, _, by omega, by omega, by omega, by omega, rfl, rfl, hid rfl, Chg.refl _ _⟩
  case round =>
    obtain ⟨p, q, hp0, hp1, hq0, hq1, rfl, rfl, hg, hc⟩ := hrel
    by_cases hq : q = 0
    · subst hq
      go_wp2
      all_goals go_ret
      all_goals exact ⟨by rw [← hg.out, gcd_zero]; simp; omega, hc⟩
    · have hq2 : (q != 0) = true := by simpa using hq
      have hs := hid (gcd_step p q)
      have hm := hid (tmod_bd p q hq)
      go_wp2
      go_roundw
      case rel => exact ⟨q, p.tmod q, hq0, hq1, (hm.out.2 _ hq0 hq1).1, (hm.out.2 _ hq0 hq1).2, rfl, rfl, hid (by rw [hs.out, hg.out]), hc⟩
      case measure => simp only [intOf]; exact hm.out.1

theorem l01IsFrac_ok (n d : Int) (w : World) : Calls Try.prog 112 #[.agg #[.int .i64 n, .int .i64 d]] w fun e w' => e = .returned (.bool (isF ⟨n, d⟩)) ∧ Chg [] w w' := by
  have S := St.start w
  go_enter Try.func112, Try.ntmps112
  go_wp2_with (first
   | ((with_reducible refine s_box S (h := ?_)); clear S; intro b w S hcN; clear hcN) | ((with_reducible refine s_alloc S (h := ?_)); clear S; intro b w S hcN; clear hcN) | (with_reducible refine s_load S (h := ?_)) | (with_reducible refine s_loadA S (h := ?_)) | ((with_reducible refine s_store S (h := ?_)); clear S; intro w S)
   | (go_at_call 79; refine (l01In_ok _ _ _ _).mono ?_; rintro e w1 ⟨rfl, hc⟩; have S := S.step hc; clear hc)
   | (go_at_call 159; have hb := inB_iff.1 (by assumption : inB d 1 1000000000 = true); have hb2 := inB_iff.1 (by assumption : inB n (-1000000000) 1000000000 = true); refine (l01Gcd_ok _ _ _ (by omega) (by omega) (by omega) (by omega)).mono ?_; rintro e w1 ⟨rfl, hc⟩; have S := S.step hc; clear hc; clear hb hb2))
  all_goals refine s_ret1 S (h := ?_)
  all_goals refine ⟨?_, S.chg⟩
  all_goals simp [isF_eq, *]

/-- What the reference gives for a fraction that does not fit. -/
def frV (n d : Int) : Frac := (fr n d).getD f00
theorem l01Frac_ok (n d : Int) (w : World) (h0 : -4611686018427387904 ≤ n) (h1 : n ≤ 4611686018427387904) (h2 : -4611686018427387904 ≤ d) (h3 : d ≤ 4611686018427387904) :
    Calls Try.prog 113 #[.int .i64 n, .int .i64 d] w fun e w' => e = .returned (.tuple #[.agg #[.int .i64 (frV n d).num, .int .i64 (frV n d).den], .bool (fr n d).isSome]) ∧ Chg [] w w' := by
  have S := St.start w
  by_cases hd : d = 0
  · subst hd
    go_enter Try.func113, Try.ntmps113
    go_wp2_with (first
     | ((with_reducible refine s_box S (h := ?_)); clear S; intro b w S hcN; clear hcN) | ((with_reducible refine s_alloc S (h := ?_)); clear S; intro b w S hcN; clear hcN) | (with_reducible refine s_load S (h := ?_)) | (with_reducible refine s_loadA S (h := ?_)) | ((with_reducible refine s_store S (h := ?_)); clear S; intro w S))
    refine s_ret2 S (h := ?_)
    exact ⟨by simp [frV, fr, f00], S.chg⟩
  have hg := gcd_pos n d hd
  have hg2 := gcd_le n d hd
  have hg3 : gcd n d ≤ 4611686018427387904 := by omega
  clear hg2
  have hd2 : (d == 0) = false := by simpa using hd
  obtain ⟨qn1, qn2, qn3, qn4⟩ := tdiv_dvd n (gcd n d) _ h0 h1 (gcd_dvd_left n d) hg
  obtain ⟨qd1, qd2, qd3, qd4⟩ := tdiv_dvd d (gcd n d) _ h2 h3 (gcd_dvd_right n d) hg
  go_enter Try.func113, Try.ntmps113
  go_wp2_with (first
   | ((with_reducible refine s_box S (h := ?_)); clear S; intro b w S hcN; clear hcN) | ((with_reducible refine s_alloc S (h := ?_)); clear S; intro b w S hcN; clear hcN) | (with_reducible refine s_load S (h := ?_)) | (with_reducible refine s_loadA S (h := ?_)) | ((with_reducible refine s_store S (h := ?_)); clear S; intro w S)
   | (with_reducible refine s_quo (h := ?_))
   | (go_at_call 159; refine (l01Gcd_ok _ _ _ (by omega) (by omega) (by omega) (by omega)).mono ?_; rintro e w1 ⟨rfl, hc⟩; have S := S.step hc; clear hc)
   | (go_at_call 112; refine (l01IsFrac_ok _ _ _).mono ?_; rintro e w1 ⟨rfl, hc⟩; have S := S.step hc; clear hc))
  all_goals refine m_startS 9 [8] [0, 1, 2, 3, 4, 5, 6] S ?_
  all_goals clear S; intro w hQ S _
  all_goals (repeat (first | ((with_reducible apply m_P hQ); (case hn => repeat (with_reducible first | exact .zero | apply Nth.succ)); (case hc => kernel_rfl); (case hy => first | fail | (apply y_quo <;> first | rfl | assumption | omega) | (apply y_pure <;> first | rfl | (intro w'; go_simp; with_reducible rfl))); (case' h => simp only [Act.put, List.setIfInBounds_toArray, List.set_cons_zero, List.set_cons_succ])) | ((with_reducible apply m_R hQ); (case hn => repeat (with_reducible first | exact .zero | apply Nth.succ)); (case hc => kernel_rfl); (case hy => first | exact y_loadA S | exact y_load S | fail); (case' h => simp only [Act.put, List.setIfInBounds_toArray, List.set_cons_zero, List.set_cons_succ]))))
  all_goals (refine m_G 7 [] (by kernel_rfl) (by repeat (with_reducible first | exact .zero | apply Nth.succ)) ?_; go_wp2_with (first | ((with_reducible refine s_box S (h := ?_)); clear S; intro b w S hcN) | ((with_reducible refine s_alloc S (h := ?_)); clear S; intro b w S hcN) | (with_reducible refine s_load S (h := ?_)) | (with_reducible refine s_loadA S (h := ?_)) | ((with_reducible refine s_store S (h := ?_)); clear S; intro w S)); refine ⟨.inr hcN, ?_⟩; clear hcN; simp only [Act.put, List.setIfInBounds_toArray, List.set_cons_zero, List.set_cons_succ])
  all_goals (refine m_G 8 [] (by kernel_rfl) (by repeat (with_reducible first | exact .zero | apply Nth.succ)) ?_; go_wp2_with (first | ((with_reducible refine s_box S (h := ?_)); clear S; intro b w S hcN; clear hcN) | ((with_reducible refine s_alloc S (h := ?_)); clear S; intro b w S hcN; clear hcN) | (with_reducible refine s_load S (h := ?_)) | (with_reducible refine s_loadA S (h := ?_)) | ((with_reducible refine s_store S (h := ?_)); clear S; intro w S)); refine ⟨.inl rfl, ?_⟩; simp only [Act.put, List.setIfInBounds_toArray, List.set_cons_zero, List.set_cons_succ])
  all_goals (refine m_end (by kernel_rfl) ?_; refine (by assumption : ∀ a w, Code.wp _ _ _ a w → _) _ _ ?_)
  all_goals go_wp2_with (first
   | ((with_reducible refine s_box S (h := ?_)); clear S; intro b w S hcN; clear hcN) | ((with_reducible refine s_alloc S (h := ?_)); clear S; intro b w S hcN; clear hcN) | (with_reducible refine s_load S (h := ?_)) | (with_reducible refine s_loadA S (h := ?_)) | ((with_reducible refine s_store S (h := ?_)); clear S; intro w S)
   | (go_at_call 112; refine (l01IsFrac_ok _ _ _).mono ?_; rintro e w1 ⟨rfl, hc⟩; have S := S.step hc; clear hc))
  all_goals refine s_ret2 S (h := ?_)
  all_goals refine ⟨?_, S.chg⟩
  all_goals first | (have hnd : d < 0 := by assumption) | (have hnd : ¬ d < 0 := by omega)
  all_goals simp [frV, fr, hd, red, fit, f00, hnd]
  all_goals split
  all_goals simp_all

theorem l01TimesFrac_ok (a b : Frac) (w : World) (ha : okF a) (hb : okF b) :
    Calls Try.prog 56 #[.agg #[.int .i64 a.num, .int .i64 a.den], .agg #[.int .i64 b.num, .int .i64 b.den]] w fun e w' => e = .returned (.tuple #[.agg #[.int .i64 ((mulF a b).getD f00).num, .int .i64 ((mulF a b).getD f00).den], .bool (mulF a b).isSome]) ∧ Chg [] w w' := by
  have S := St.start w
  unfold okF at ha hb
  have h1 := mul_18 (a := a.num) (b := b.num) (by omega) (by omega) (by omega) (by omega)
  have h2 := mul_18 (a := a.den) (b := b.den) (by omega) (by omega) (by omega) (by omega)
  go_enter Try.func56, Try.ntmps56
  go_wp2_with (first
   | ((with_reducible refine s_box S (h := ?_)); clear S; intro b w S hcN; clear hcN) | ((with_reducible refine s_alloc S (h := ?_)); clear S; intro b w S hcN; clear hcN) | (with_reducible refine s_load S (h := ?_)) | (with_reducible refine s_loadA S (h := ?_)) | ((with_reducible refine s_store S (h := ?_)); clear S; intro w S)
   | (go_at_call 113; refine (l01Frac_ok _ _ _ (by omega) (by omega) (by omega) (by omega)).mono ?_; rintro e w1 ⟨rfl, hc⟩; have S := S.step hc; clear hc))
  refine s_ret2 S (h := ?_)
  exact ⟨rfl, S.chg⟩
theorem l01Plus_ok (a b : Frac) (w : World) (ha : okF a) (hb : okF b) :
    Calls Try.prog 57 #[.agg #[.int .i64 a.num, .int .i64 a.den], .agg #[.int .i64 b.num, .int .i64 b.den]] w fun e w' => e = .returned (.tuple #[.agg #[.int .i64 ((addF a b).getD f00).num, .int .i64 ((addF a b).getD f00).den], .bool (addF a b).isSome]) ∧ Chg [] w w' := by
  have S := St.start w
  unfold okF at ha hb
  have h1 := mul_18 (a := a.num) (b := b.den) (by omega) (by omega) (by omega) (by omega)
  have h1' := mul_18 (a := b.num) (b := a.den) (by omega) (by omega) (by omega) (by omega)
  have h2 := mul_18 (a := a.den) (b := b.den) (by omega) (by omega) (by omega) (by omega)
  go_enter Try.func57, Try.ntmps57
  go_wp2_with (first
   | ((with_reducible refine s_box S (h := ?_)); clear S; intro b w S hcN; clear hcN) | ((with_reducible refine s_alloc S (h := ?_)); clear S; intro b w S hcN; clear hcN) | (with_reducible refine s_load S (h := ?_)) | (with_reducible refine s_loadA S (h := ?_)) | ((with_reducible refine s_store S (h := ?_)); clear S; intro w S)
   | (go_at_call 113; refine (l01Frac_ok _ _ _ (by omega) (by omega) (by omega) (by omega)).mono ?_; rintro e w1 ⟨rfl, hc⟩; have S := S.step hc; clear hc))
  refine s_ret2 S (h := ?_)
  exact ⟨rfl, S.chg⟩
theorem l02One_ok (n : Int) (w : World) : Calls Try.prog 55 #[.int .i64 n] w fun e w' => e = .returned (.agg #[.int .i64 n, .int .i64 1]) ∧ Chg [] w w' := by
  have S := St.start w
  go_enter Try.func55, Try.ntmps55
  go_wp2_with (first
   | ((with_reducible refine s_box S (h := ?_)); clear S; intro b w S hcN; clear hcN) | ((with_reducible refine s_alloc S (h := ?_)); clear S; intro b w S hcN; clear hcN) | (with_reducible refine s_load S (h := ?_)) | (with_reducible refine s_loadA S (h := ?_)) | ((with_reducible refine s_store S (h := ?_)); clear S; intro w S))
  refine s_ret1 S (h := ?_)
  exact ⟨rfl, S.chg⟩
end Go.Proofs.Ytcfialfgkkjlfaa
