/- Contracts: the laws' sizes of series; what holds marks. -/
import Derived.Test.YtcfialfgkkjlfaaE4
set_option linter.unusedSimpArgs false
set_option linter.unusedVariables false
namespace Go.Sg
def szTerm1 (t : Term) (l : Int) : Int := szL t.word.size l
theorem szTerm1_le (t : Term) (l : Int) (h : 0 ≤ l) : szTerm1 t l ≤ l := szL_le _ _ h
end Go.Sg
namespace Go.Proofs.Ytcfialfgkkjlfaa
open Go.RowKit Go.Sx Go.Sg
theorem szTermS_ok (xs : List Term) (left : Int) (v : Value) (w : World) (hR : Rd (sl 160 dTerm) w xs [v]) (h0 : 0 ≤ left) (h1 : left ≤ 4611686018427387904) (hsz : ∀ t ∈ xs, t.word.size ≤ 9223372036854775807) :
    Calls Try.prog 77 #[v, .int .i64 left] w fun e w' => e = .returned (.int .i64 (szSS szTerm1 xs left)) ∧ Chg [] w w' := by
  have S := St.start w
  obtain ⟨A, c, rfl, hc1, hc2⟩ := hR.slice
  unfold maxLen at hc2
  by_cases hs : left - xs.length < 0
  · have e : szSS szTerm1 xs left = -1 := by unfold szSS; rw [if_pos hs]
    rw [e]
    go_enter Try.func77, Try.ntmps77
    go_wp2
    refine s_ret1 S (h := ?_)
    exact ⟨rfl, S.chg⟩
  have e : szSS szTerm1 xs left = szFold szTerm1 xs (left - xs.length) := by unfold szSS; rw [if_neg hs]
  rw [e]
  go_enter Try.func77, Try.ntmps77
  go_wp2
  go_loopw [1, 5] (fun u i wr => ∃ (k : Nat) (l : Int), k ≤ xs.length ∧ u = .int .i64 l ∧ 0 ≤ l ∧ l ≤ 4611686018427387904 ∧ i = .int .i64 k ∧ Hid (szFold szTerm1 xs (left - xs.length) = szFold szTerm1 (xs.drop k) l) ∧ St [] w wr []) (fun _ i _ => xs.length - (intOf i).toNat)
  case atStart => exact ⟨0, _, Nat.zero_le _, rfl, by omega, by omega, rfl, hid (by rw [List.drop_zero]), S⟩
  case round =>
    clear S
    obtain ⟨k, l, hk, rfl, hl0, hl1, rfl, hf, S⟩ := hrel
    by_cases hlt : k < xs.length
    · obtain ⟨ad, cy, rfl, -, ⟨_, rfl, _⟩, hE⟩ := (S.rd hR).getS k _ (List.getElem?_eq_getElem hlt)
      replace hE : El _ _ (encT xs[k]) := hE
      unfold encT at hE
      rw [drop_cons hlt] at hf
      have hl2 : szTerm1 xs[k] l ≤ l := szTerm1_le _ _ hl0
      have hw := hsz _ (List.getElem_mem hlt)
      have cz := fun w => szTerm_ok xs[k] l w hl0 hl1 hw
      change ∀ w, Calls _ _ _ w fun e w' => e = .returned (.int .i64 (szTerm1 xs[k] l)) ∧ Chg [] w w' at cz
      generalize hz : szTerm1 xs[k] l = z at *
      go_wp2_with (first
        | (with_reducible refine s_idxS (h := ?_))
        | ((with_reducible refine gd 21 ?_); refine s_ldEA rfl hE (by repeat (with_reducible first | exact Sub.done | apply Sub.here | apply Sub.there)) ?_)
        | (go_at_call 135; refine (cz _).mono ?_; rintro e w1 ⟨rfl, hc⟩; have S := S.step hc; clear hc))
      · refine s_ret1 S (h := ?_)
        refine ⟨?_, S.chg⟩
        have h : z < 0 := by assumption
        rw [hf.out]
        unfold szFold
        rw [hz, if_pos h]
        rfl
      · go_roundw
        case rel =>
          have h : 0 ≤ z := by assumption
          refine ⟨k + 1, _, hlt, rfl, h, by omega, by go_num, hid ?_, S⟩
          rw [hf.out]
          show (if _ then _ else _) = _
          rw [hz, if_neg (by omega)]
        case measure => simp [intOf]; omega
    · obtain rfl : k = xs.length := by omega
      go_wp2
      refine s_ret1 S (h := ?_)
      refine ⟨?_, S.chg⟩
      rw [hf.out, List.drop_length]
      rfl
theorem szSeries_ok (d n : Int) (xs : List Term) (left : Int) (v : Value) (w : World) (hR : Rd (sl 160 dTerm) w xs [v]) (h0 : 0 ≤ left) (h1 : left ≤ 4611686018427387904) (hsz : ∀ t ∈ xs, t.word.size ≤ 9223372036854775807) :
    Calls Try.prog 26 #[.agg #[.int .i64 d, .int .i64 n, v], .int .i64 left] w fun e w' => ∃ r : Int, e = .returned (.int .i64 r) ∧ (0 ≤ r → 0 ≤ szSS szTerm1 xs left) ∧ Chg [] w w' := by
  have S := St.start w
  obtain ⟨A, c, rfl, -, -⟩ := hR.slice
  go_enter Try.func26, Try.ntmps26
  go_wp2_with (first
   | ((with_reducible refine s_box S (h := ?_)); clear S; intro b w S hcN; clear hcN) | ((with_reducible refine s_alloc S (h := ?_)); clear S; intro b w S hcN; clear hcN) | (with_reducible refine s_load S (h := ?_)) | (with_reducible refine s_loadA S (h := ?_)) | ((with_reducible refine s_store S (h := ?_)); clear S; intro w S)
   | (go_at_call 77; refine (szTermS_ok xs left _ _ (S.rd hR) h0 h1 hsz).mono ?_; rintro e w1 ⟨rfl, hc⟩; have S := S.step hc; clear hc))
  all_goals refine s_ret1 S (h := ?_)
  · exact ⟨-1, rfl, fun h => by omega, S.chg⟩
  · exact ⟨_, rfl, fun h => h, S.chg⟩
set_option maxRecDepth 100000 in
theorem heldTermS_ok (xs : List Term) (v : Value) (k : Int) (w0 : World) (hR : Rd (sl 98 dTerm) w0 (mkTerm.marks xs k) [v]) (hk0 : 0 < k) (hk1 : k + 3 * xs.length ≤ 4611686018427387904) :
    Calls Try.prog 76 #[v, .int .i64 k] w0 fun e w' => e = .returned (.int .i64 (k + 3 * xs.length)) ∧ Chg [] w0 w' := by
  have S := St.start w0
  obtain ⟨A, c, rfl, hc1, hc2⟩ := hR.slice
  unfold maxLen at hc2
  rw [marks_len] at hc1
  go_enter Try.func76, Try.ntmps76
  go_wp2
  go_loopw [1, 5] (fun u i wr => ∃ (j : Nat), j ≤ xs.length ∧ u = .int .i64 (k + 3 * j) ∧ i = .int .i64 j ∧ St [] w0 wr []) (fun _ i _ => xs.length - (intOf i).toNat)
  case atStart => exact ⟨0, Nat.zero_le _, by simp, rfl, S⟩
  case round =>
    clear S
    obtain ⟨j, hj, rfl, rfl, S⟩ := hrel
    by_cases hlt : j < xs.length
    · obtain ⟨ad, cy, rfl, hlen, ⟨_, rfl, _⟩, hE⟩ := (S.rd hR).getS j _ (marks_term_at xs k j hlt)
      replace hE : El _ _ [.string (markT (k + 3 * j)), .int .i64 (k + 3 * j + 1), .int .i64 (k + 3 * j + 2)] := hE
      have hmt := fun w => markText_ok (k + 3 * j) w (by omega) (by omega)
      clear hlen
      rw [marks_len] at *
      go_wp2
      refine m_startS 8 [] [0, 1, 2, 3, 4, 5] S ?_
      clear S; intro w hQ S hcD
      replace hE := hE.step hcD
      have hE0 := hE.add 0
      (repeat (first | ((with_reducible apply m_P hQ); (case hn => repeat (with_reducible first | exact .zero | apply Nth.succ)); (case hc => kernel_rfl); (case hy => first | exact y_ldE hE0 | exact y_fld | (apply y_idxS <;> first | rfl | omega) | (apply y_quo <;> first | rfl | assumption | omega) | (apply y_pure <;> first | rfl | (intro w'; go_simp; with_reducible rfl))); (case' h => simp only [Act.put, List.setIfInBounds_toArray, List.set_cons_zero, List.set_cons_succ])) | ((with_reducible apply m_R hQ); (case hn => repeat (with_reducible first | exact .zero | apply Nth.succ)); (case hc => kernel_rfl); (case hy => first | exact y_loadA S | exact y_load S | exact y_ldE hE0 | exact y_fld | (apply y_idxS <;> first | rfl | omega)); (case' h => simp only [Act.put, List.setIfInBounds_toArray, List.set_cons_zero, List.set_cons_succ]))))
      refine m_G 6 [] (by kernel_rfl) (by repeat (with_reducible first | exact .zero | apply Nth.succ)) ?_
      go_wp2_with (go_at_call 134; refine (hmt _).mono ?_; rintro e w1 ⟨rfl, hcN⟩; have S := S.step hcN)
      have hE1 := (hE.step hcN).add 1
      have hE2 := (hE.step hcN).add 2
      refine ⟨.inr hcN, ?_⟩; clear hcN; simp only [Act.put, List.setIfInBounds_toArray, List.set_cons_zero, List.set_cons_succ]
      (refine m_G 7 [] (by kernel_rfl) (by repeat (with_reducible first | exact .zero | apply Nth.succ)) ?_; go_wp2; refine ⟨.inr (Chg.refl _ _), ?_⟩; simp only [Act.put, List.setIfInBounds_toArray, List.set_cons_zero, List.set_cons_succ])
      (refine m_end (by kernel_rfl) ?_; refine (by assumption : ∀ a w, Code.wp _ _ _ a w → _) _ _ ?_)
      clear hE hE0
      go_wp2_with (first
        | (with_reducible refine s_idxS (h := ?_))
        | (with_reducible refine s_fld (h := ?_))
        | ((with_reducible refine gd 27 ?_); refine s_ldE rfl hE1 rfl ?_)
        | ((with_reducible refine gd 37 ?_); refine s_ldE rfl hE2 rfl ?_))
      go_roundw
      case rel => exact ⟨j + 1, hlt, by go_num, by go_num, S⟩
      case measure => simp [intOf]; omega
    · obtain rfl : j = xs.length := by omega
      rw [marks_len]
      go_wp2
      refine s_ret1 S (h := ?_)
      exact ⟨rfl, S.chg⟩
theorem heldSeries_ok (d n : Int) (xs : List Term) (v : Value) (k : Int) (w0 : World) (hR : Rd (sl 98 dTerm) w0 (mkTerm.marks xs k) [v]) (hk0 : 0 < k) (hk1 : k + 3 * xs.length ≤ 4611686018427387904) :
    Calls Try.prog 25 #[.agg #[.int .i64 d, .int .i64 n, v], .int .i64 k] w0 fun e w' => e = .returned (.int .i64 (k + 3 * xs.length)) ∧ Chg [] w0 w' := by
  have S := St.start w0
  obtain ⟨A, c, rfl, -, -⟩ := hR.slice
  go_enter Try.func25, Try.ntmps25
  go_wp2_with (first
   | ((with_reducible refine s_box S (h := ?_)); clear S; intro b w S hcN; clear hcN) | ((with_reducible refine s_alloc S (h := ?_)); clear S; intro b w S hcN; clear hcN) | (with_reducible refine s_load S (h := ?_)) | (with_reducible refine s_loadA S (h := ?_)) | ((with_reducible refine s_store S (h := ?_)); clear S; intro w S)
   | (go_at_call 76; refine (heldTermS_ok xs _ k _ (S.rd hR) hk0 hk1).mono ?_; rintro e w1 ⟨rfl, hc⟩; have S := S.step hc; clear hc))
  refine s_ret1 S (h := ?_)
  exact ⟨rfl, S.chg⟩
end Go.Proofs.Ytcfialfgkkjlfaa
