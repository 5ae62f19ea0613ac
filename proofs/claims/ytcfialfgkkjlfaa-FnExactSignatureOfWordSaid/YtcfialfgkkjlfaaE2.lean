/- Contracts: the laws' helpers for terms and series. -/
import Derived.Test.YtcfialfgkkjlfaaC3
set_option linter.unusedSimpArgs false
set_option linter.unusedVariables false
namespace Go.Proofs.Ytcfialfgkkjlfaa
open Go.RowKit Go.Sx Go.Sg
def t00 : Term := ⟨⟨#[]⟩, f00⟩
theorem toTerm_ok (a : Term) (w : World) : Calls Try.prog 138 #[.agg #[.string a.word, .int .i64 a.val.num, .int .i64 a.val.den]] w fun e w' => e = .returned (.agg #[.string a.word, .int .i64 a.val.num, .int .i64 a.val.den]) ∧ Chg [] w w' := by
  have S := St.start w
  go_enter Try.func138, Try.ntmps138
  go_wp2_with (first
   | ((with_reducible refine s_box S (h := ?_)); clear S; intro b w S hcN; clear hcN) | ((with_reducible refine s_alloc S (h := ?_)); clear S; intro b w S hcN; clear hcN) | (with_reducible refine s_load S (h := ?_)) | (with_reducible refine s_loadA S (h := ?_)) | ((with_reducible refine s_store S (h := ?_)); clear S; intro w S)
   | (go_at_call 114; refine (toFraction_ok a.val _).mono ?_; rintro e w1 ⟨rfl, hc⟩; have S := S.step hc; clear hc))
  refine s_ret1 S (h := ?_)
  exact ⟨rfl, S.chg⟩
theorem eqTerm_ok (a : Term) (w : World) : Calls Try.prog 133 #[.agg #[.string a.word, .int .i64 a.val.num, .int .i64 a.val.den], .agg #[.string a.word, .int .i64 a.val.num, .int .i64 a.val.den]] w fun e w' => e = .returned (.bool true) ∧ Chg [] w w' := by
  have S := St.start w
  go_enter Try.func133, Try.ntmps133
  go_wp2_with (first
   | ((with_reducible refine s_box S (h := ?_)); clear S; intro b w S hcN; clear hcN) | ((with_reducible refine s_alloc S (h := ?_)); clear S; intro b w S hcN; clear hcN) | (with_reducible refine s_load S (h := ?_)) | (with_reducible refine s_loadA S (h := ?_)) | ((with_reducible refine s_store S (h := ?_)); clear S; intro w S)
   | (go_at_call 52; refine (eqFraction_ok a.val _).mono ?_; rintro e w1 ⟨rfl, hc⟩; have S := S.step hc; clear hc))
  all_goals refine s_ret1 S (h := ?_)
  exact ⟨rfl, S.chg⟩
theorem szTerm_ok (a : Term) (left : Int) (w : World) (h0 : 0 ≤ left) (h1 : left ≤ 4611686018427387904) (hw : a.word.size ≤ 9223372036854775807) : Calls Try.prog 135 #[.agg #[.string a.word, .int .i64 a.val.num, .int .i64 a.val.den], .int .i64 left] w fun e w' => e = .returned (.int .i64 (szL a.word.size left)) ∧ Chg [] w w' := by
  have S := St.start w
  by_cases hs : left - a.word.size < 0
  · have e : szL a.word.size left = -1 := by unfold szL; rw [if_pos hs]
    rw [e]
    go_enter Try.func135, Try.ntmps135
    go_wp2_with (first | ((with_reducible refine s_box S (h := ?_)); clear S; intro b w S hcN; clear hcN) | ((with_reducible refine s_alloc S (h := ?_)); clear S; intro b w S hcN; clear hcN) | (with_reducible refine s_load S (h := ?_)) | (with_reducible refine s_loadA S (h := ?_)) | ((with_reducible refine s_store S (h := ?_)); clear S; intro w S))
    refine s_ret1 S (h := ?_)
    exact ⟨rfl, S.chg⟩
  · have e : szL a.word.size left = left - a.word.size := by unfold szL; rw [if_neg hs]
    rw [e]
    go_enter Try.func135, Try.ntmps135
    go_wp2_with (first | ((with_reducible refine s_box S (h := ?_)); clear S; intro b w S hcN; clear hcN) | ((with_reducible refine s_alloc S (h := ?_)); clear S; intro b w S hcN; clear hcN) | (with_reducible refine s_load S (h := ?_)) | (with_reducible refine s_loadA S (h := ?_)) | ((with_reducible refine s_store S (h := ?_)); clear S; intro w S))
    refine s_ret1 S (h := ?_)
    exact ⟨rfl, S.chg⟩
set_option maxRecDepth 100000 in
theorem toTermS_ok (xs : List (Term)) (v : Value) (w : World) (hR : Rd (sl 160 dTerm) w xs [v]) (hl : xs.length * 32 ≤ 281474976710656) :
    Calls Try.prog 82 #[v] w fun e w' => ∃ v' bs, e = .returned v' ∧ St [] w w' [own 98 dTerm v' xs bs] := by
  have S := St.start w
  obtain ⟨A, c, rfl, hc1, hc2⟩ := hR.slice
  unfold maxLen at hc2
  go_enter Try.func82, Try.ntmps82
  go_wp2_with (first
   | ((with_reducible refine gd 7 ?_); refine s_make (d := dTerm) (x0 := t00) S rfl (by decide) rfl rfl (fun _ => ⟨rfl, rfl⟩) (by assumption) (by unfold maxLen; omega) ?_; clear S; intro b w1 S))
  go_loopw [4] (fun i wr => ∃ k : Nat, k ≤ xs.length ∧ i = .int .i64 k ∧ St [] w wr [own 98 dTerm (.slice (some ⟨b, 0, none⟩) xs.length xs.length) (fill xs k t00) [b]]) (fun i _ => xs.length - (intOf i).toNat)
  case atStart => exact ⟨0, Nat.zero_le _, rfl, by rw [fill_zero]; exact S⟩
  case round =>
    clear S
    obtain ⟨k, hk, rfl, S⟩ := hrel
    by_cases hlt : k < xs.length
    · obtain ⟨ad, cy, rfl, -, ⟨_, rfl, _⟩, hE⟩ := (S.rd hR).getS k _ (List.getElem?_eq_getElem hlt)
      replace hE : El _ _ (encT xs[k]) := hE
      unfold encT at hE
      go_wp2_with (first
        | (with_reducible refine s_idxS (h := ?_))
        | ((with_reducible refine gd 19 ?_); refine s_ldEA rfl hE (by repeat (with_reducible first | exact Sub.done | apply Sub.here | apply Sub.there)) ?_)
        | (go_at_call 138; refine (toTerm_ok xs[k] _).mono ?_; rintro e w1 ⟨rfl, hc⟩; have S := S.step hc; clear hc)
        | ((with_reducible refine gs 21 ?_); refine s_stW (i := k) (y0 := xs[k]) S .here rfl (by first | exact At.of | exact At.at_) (by rw [fill_len hk]; exact hlt) rfl rfl ?_; clear S; intro w2 S))
      go_roundw
      case rel =>
        refine ⟨k + 1, hlt, by go_num, ?_⟩
        rw [fill_set hlt] at S
        exact S
      case measure => simp [intOf]; omega
    · obtain rfl : k = xs.length := by omega
      go_wp2
      refine s_ret1 S (h := ?_)
      exact ⟨_, _, rfl, by rw [fill_all] at S; exact S⟩

set_option maxRecDepth 100000 in
theorem eqTermS_ok (xs : List (Term)) (v1 v2 : Value) (w : World) (hR : Rd (sl 98 dTerm) w xs [v1]) (hR2 : Rd (sl 98 dTerm) w xs [v2]) :
    Calls Try.prog 74 #[v1, v2] w fun e w' => e = .returned (.bool true) ∧ Chg [] w w' := by
  have S := St.start w
  obtain ⟨A, c, rfl, hc1, hc2⟩ := hR.slice
  obtain ⟨A2, c2, rfl, hc3, hc4⟩ := hR2.slice
  unfold maxLen at hc2 hc4
  go_enter Try.func74, Try.ntmps74
  go_wp2
  go_loopw [5] (fun i wr => ∃ k : Nat, k ≤ xs.length ∧ i = .int .i64 k ∧ St [] w wr []) (fun i _ => xs.length - (intOf i).toNat)
  case atStart => exact ⟨0, Nat.zero_le _, rfl, S⟩
  case round =>
    clear S
    obtain ⟨k, hk, rfl, S⟩ := hrel
    by_cases hlt : k < xs.length
    · obtain ⟨ad, cy, rfl, -, ⟨_, rfl, _⟩, hE⟩ := (S.rd hR).getS k _ (List.getElem?_eq_getElem hlt)
      obtain ⟨ad2, cy2, rfl, -, ⟨_, rfl, _⟩, hE2⟩ := (S.rd hR2).getS k _ (List.getElem?_eq_getElem hlt)
      replace hE : El _ _ (encT xs[k]) := hE
      replace hE2 : El _ _ (encT xs[k]) := hE2
      unfold encT at hE hE2
      go_wp2
      refine m_startS 10 [] [0, 1, 2, 3, 4, 5, 6, 7] S ?_
      clear S; intro w hQ S hcD
      replace hE := hE.step hcD; replace hE2 := hE2.step hcD
      (repeat (first | ((with_reducible apply m_P hQ); (case hn => repeat (with_reducible first | exact .zero | apply Nth.succ)); (case hc => kernel_rfl); (case hy => first | exact y_ldEA hE | exact y_ldEA hE2 | (apply y_idxS <;> first | rfl | omega) | (apply y_quo <;> first | rfl | assumption | omega) | (apply y_pure <;> first | rfl | (intro w'; go_simp; with_reducible rfl))); (case' h => simp only [Act.put, List.setIfInBounds_toArray, List.set_cons_zero, List.set_cons_succ])) | ((with_reducible apply m_R hQ); (case hn => repeat (with_reducible first | exact .zero | apply Nth.succ)); (case hc => kernel_rfl); (case hy => first | exact y_loadA S | exact y_load S | exact y_ldEA hE | exact y_ldEA hE2 | (apply y_idxS <;> first | rfl | omega)); (case' h => simp only [Act.put, List.setIfInBounds_toArray, List.set_cons_zero, List.set_cons_succ]))))
      refine m_G 8 [] (by kernel_rfl) (by repeat (with_reducible first | exact .zero | apply Nth.succ)) ?_
      go_wp2_with (go_at_call 133; refine (eqTerm_ok xs[k] _).mono ?_; rintro e w1 ⟨rfl, hcN⟩; have S := S.step hcN)
      refine ⟨.inr hcN, ?_⟩; clear hcN; simp only [Act.put, List.setIfInBounds_toArray, List.set_cons_zero, List.set_cons_succ]
      (refine m_G 9 [] (by kernel_rfl) (by repeat (with_reducible first | exact .zero | apply Nth.succ)) ?_; go_wp2; refine ⟨.inr (Chg.refl _ _), ?_⟩; simp only [Act.put, List.setIfInBounds_toArray, List.set_cons_zero, List.set_cons_succ])
      (refine m_end (by kernel_rfl) ?_; refine (by assumption : ∀ a w, Code.wp _ _ _ a w → _) _ _ ?_)
      go_wp2
      go_roundw
      case rel => exact ⟨k + 1, hlt, by go_num, S⟩
      case measure => simp [intOf]; omega
    · obtain rfl : k = xs.length := by omega
      go_wp2
      refine s_ret1 S (h := ?_)
      exact ⟨rfl, S.chg⟩

end Go.Proofs.Ytcfialfgkkjlfaa
