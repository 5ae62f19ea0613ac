/- Contracts: the laws' helpers for lists of fractions. -/
import Derived.Test.YtcfialfgkkjlfaaC2
import Derived.Test.YtcfialfgkkjlfaaB2
import Derived.Test.YtcfialfgkkjlfaaA8
set_option linter.unusedSimpArgs false
set_option linter.unusedVariables false
namespace Go.Proofs.Ytcfialfgkkjlfaa
open Go.RowKit Go.Sx Go.Sg

theorem szFractionS_ok (xs : List Frac) (left : Int) (v : Value) (w : World) (hR : Rd (sl 140 dFrac) w xs [v]) (h0 : 0 ≤ left) (h1 : left ≤ 4611686018427387904) :
    Calls Try.prog 53 #[v, .int .i64 left] w fun e w' => e = .returned (.int .i64 (szRow xs left)) ∧ Chg [] w w' := by
  obtain ⟨A, c, rfl, hc1, hc2⟩ := hR.slice
  unfold maxLen at hc2
  go_enter Try.func53, Try.ntmps53
  go_wp2
  all_goals go_ret
  all_goals refine ⟨?_, Chg.refl _ _⟩
  all_goals (simp [szRow, szL] <;> omega)

theorem toFraction_ok (a : Frac) (w : World) : Calls Try.prog 114 #[.agg #[.int .i64 a.num, .int .i64 a.den]] w fun e w' => e = .returned (.agg #[.int .i64 a.num, .int .i64 a.den]) ∧ Chg [] w w' := by
  have S := St.start w
  go_enter Try.func114, Try.ntmps114
  go_wp2_with (first
   | ((with_reducible refine s_box S (h := ?_)); clear S; intro b w S hcN; clear hcN) | ((with_reducible refine s_alloc S (h := ?_)); clear S; intro b w S hcN; clear hcN) | (with_reducible refine s_load S (h := ?_)) | (with_reducible refine s_loadA S (h := ?_)) | ((with_reducible refine s_store S (h := ?_)); clear S; intro w S))
  refine s_ret1 S (h := ?_)
  exact ⟨rfl, S.chg⟩
theorem eqFraction_ok (a : Frac) (w : World) : Calls Try.prog 52 #[.agg #[.int .i64 a.num, .int .i64 a.den], .agg #[.int .i64 a.num, .int .i64 a.den]] w fun e w' => e = .returned (.bool true) ∧ Chg [] w w' := by
  have S := St.start w
  go_enter Try.func52, Try.ntmps52
  go_wp2_with (first
   | ((with_reducible refine s_box S (h := ?_)); clear S; intro b w S hcN; clear hcN) | ((with_reducible refine s_alloc S (h := ?_)); clear S; intro b w S hcN; clear hcN) | (with_reducible refine s_load S (h := ?_)) | (with_reducible refine s_loadA S (h := ?_)) | ((with_reducible refine s_store S (h := ?_)); clear S; intro w S))
  all_goals refine s_ret1 S (h := ?_)
  exact ⟨rfl, S.chg⟩

set_option maxRecDepth 100000 in
theorem toFractionS_ok (xs : List Frac) (v : Value) (w : World) (hR : Rd (sl 140 dFrac) w xs [v]) (hl : xs.length * 16 ≤ 281474976710656) :
    Calls Try.prog 58 #[v] w fun e w' => ∃ v' bs, e = .returned v' ∧ St [] w w' [own 76 dFrac v' xs bs] := by
  have S := St.start w
  obtain ⟨A, c, rfl, hc1, hc2⟩ := hR.slice
  unfold maxLen at hc2
  go_enter Try.func58, Try.ntmps58
  go_wp2_with (first
   | ((with_reducible refine gd 7 ?_); refine s_make (d := dFrac) (x0 := f00) S rfl (by decide) rfl rfl (fun _ => ⟨rfl, rfl⟩) (by assumption) (by unfold maxLen; omega) ?_; clear S; intro b w1 S))
  go_loopw [4] (fun i wr => ∃ k : Nat, k ≤ xs.length ∧ i = .int .i64 k ∧ St [] w wr [own 76 dFrac (.slice (some ⟨b, 0, none⟩) xs.length xs.length) (fill xs k f00) [b]]) (fun i _ => xs.length - (intOf i).toNat)
  case atStart => exact ⟨0, Nat.zero_le _, rfl, by rw [fill_zero]; exact S⟩
  case round =>
    clear S
    obtain ⟨k, hk, rfl, S⟩ := hrel
    by_cases hlt : k < xs.length
    · obtain ⟨ad, cy, rfl, _, ⟨_, rfl, _⟩, hE⟩ := (S.rd hR).getS k _ (List.getElem?_eq_getElem hlt)
      replace hE : El _ _ [.int .i64 (xs[k]).num, .int .i64 (xs[k]).den] := hE
      go_wp2_with (first
        | (with_reducible refine s_idxS (h := ?_))
        | ((with_reducible refine gd 19 ?_); refine s_ldEA rfl hE (by repeat (with_reducible first | exact Sub.done | apply Sub.here | apply Sub.there)) ?_)
        | (go_at_call 114; refine (toFraction_ok _ _).mono ?_; rintro e w1 ⟨rfl, hc⟩; have S := S.step hc; clear hc)
        | ((with_reducible refine gs 21 ?_); refine s_stW (i := k) (y0 := xs[k]) S .here rfl At.of (by rw [fill_len hk]; exact hlt) rfl rfl ?_; clear S; intro w2 S))
      go_roundw
      case rel =>
        refine ⟨k + 1, hlt, by go_num, ?_⟩
        rw [fill_set hlt] at S
        exact S
      case measure => simp [intOf]; omega
    · obtain rfl : k = xs.length := by omega
      go_wp2
      refine s_ret1 S (h := ?_)
      exact ⟨_, _, rfl, by rw [fill_all] at S; exact S⟩
set_option maxRecDepth 100000 in
theorem eqFractionS_ok (xs : List Frac) (v1 v2 : Value) (w : World) (hR : Rd (sl 76 dFrac) w xs [v1]) (hR2 : Rd (sl 76 dFrac) w xs [v2]) :
    Calls Try.prog 63 #[v1, v2] w fun e w' => e = .returned (.bool true) ∧ Chg [] w w' := by
  have S := St.start w
  obtain ⟨A, c, rfl, hc1, hc2⟩ := hR.slice
  obtain ⟨A2, c2, rfl, hc3, hc4⟩ := hR2.slice
  unfold maxLen at hc2 hc4
  go_enter Try.func63, Try.ntmps63
  go_wp2
  go_loopw [5] (fun i wr => ∃ k : Nat, k ≤ xs.length ∧ i = .int .i64 k ∧ St [] w wr []) (fun i _ => xs.length - (intOf i).toNat)
  case atStart => exact ⟨0, Nat.zero_le _, rfl, S⟩
  case round =>
    clear S
    obtain ⟨k, hk, rfl, S⟩ := hrel
    by_cases hlt : k < xs.length
    · obtain ⟨ad, cy, rfl, _, ⟨_, rfl, _⟩, hE⟩ := (S.rd hR).getS k _ (List.getElem?_eq_getElem hlt)
      obtain ⟨ad2, cy2, rfl, _, ⟨_, rfl, _⟩, hE2⟩ := (S.rd hR2).getS k _ (List.getElem?_eq_getElem hlt)
      replace hE : El _ _ [.int .i64 (xs[k]).num, .int .i64 (xs[k]).den] := hE
      replace hE2 : El _ _ [.int .i64 (xs[k]).num, .int .i64 (xs[k]).den] := hE2
      go_wp2
      refine m_startS 10 [] [0, 1, 2, 3, 4, 5, 6, 7] S ?_
      clear S; intro w hQ S hcD
      replace hE := hE.step hcD; replace hE2 := hE2.step hcD
      (repeat (first | ((with_reducible apply m_P hQ); (case hn => repeat (with_reducible first | exact .zero | apply Nth.succ)); (case hc => kernel_rfl); (case hy => first | exact y_ldEA hE | exact y_ldEA hE2 | (apply y_idxS <;> first | rfl | omega) | (apply y_quo <;> first | rfl | assumption | omega) | (apply y_pure <;> first | rfl | (intro w'; go_simp; with_reducible rfl))); (case' h => simp only [Act.put, List.setIfInBounds_toArray, List.set_cons_zero, List.set_cons_succ])) | ((with_reducible apply m_R hQ); (case hn => repeat (with_reducible first | exact .zero | apply Nth.succ)); (case hc => kernel_rfl); (case hy => first | exact y_loadA S | exact y_load S | exact y_ldEA hE | exact y_ldEA hE2 | (apply y_idxS <;> first | rfl | omega)); (case' h => simp only [Act.put, List.setIfInBounds_toArray, List.set_cons_zero, List.set_cons_succ]))))
      refine m_G 8 [] (by kernel_rfl) (by repeat (with_reducible first | exact .zero | apply Nth.succ)) ?_
      go_wp2_with (go_at_call 52; refine (eqFraction_ok _ _).mono ?_; rintro e w1 ⟨rfl, hcN⟩; have S := S.step hcN)
      refine ⟨.inr hcN, ?_⟩; clear hcN; simp only [Act.put, List.setIfInBounds_toArray, List.set_cons_zero, List.set_cons_succ]
      (refine m_G 9 [] (by kernel_rfl) (by repeat (with_reducible first | exact .zero | apply Nth.succ)) ?_; go_wp2; refine ⟨.inr (Chg.refl _ _), ?_⟩; simp only [Act.put, List.setIfInBounds_toArray, List.set_cons_zero, List.set_cons_succ])
      (refine m_end (by kernel_rfl) ?_; refine (by assumption : ∀ a w, Code.wp _ _ _ a w → _) _ _ ?_)
      go_wp2
      go_roundw
      case rel => exact ⟨k + 1, hlt, by go_num, S⟩
      case measure => simp [intOf]; omega
    · obtain rfl : k = xs.length := by omega
      go_wp2
      refine s_ret1 S (h := ?_)
      exact ⟨rfl, S.chg⟩

set_option maxRecDepth 100000 in
theorem markFractionS_ok (xs : List Frac) (v : Value) (k : Int) (bs M : List Nat) (w : World) (S : St M w w [own 76 dFrac v xs bs]) (hk0 : 0 ≤ k) (hk1 : mkFrac.nexts xs k ≤ 4611686018427387904) :
    Calls Try.prog 64 #[v, .int .i64 k] w fun e w' => e = .returned (.int .i64 (mkFrac.nexts xs k)) ∧ St M w w' [own 76 dFrac v (mkFrac.marks xs k) bs] := by
  rw [nexts_frac] at *
  obtain ⟨A, c, rfl, hc1, hc2⟩ := own_slice S (.head _)
  unfold maxLen at hc2
  go_enter Try.func64, Try.ntmps64
  go_wp2
  go_loopw [1, 5] (fun u i wr => ∃ (j : Nat) (ys : List Frac), j ≤ xs.length ∧ u = .int .i64 (k + 2 * j) ∧ i = .int .i64 j ∧ ys.length = j ∧ Hid (mkFrac.marks xs k = ys ++ mkFrac.marks (xs.drop j) (k + 2 * j)) ∧ St M w wr [own 76 dFrac (.slice A xs.length c) (ys ++ xs.drop j) bs]) (fun _ i _ => xs.length - (intOf i).toNat)
  case atStart => exact ⟨0, [], Nat.zero_le _, by simp, rfl, rfl, hid (by simp), S⟩
  case round =>
    clear S
    obtain ⟨j, ys, hj, rfl, rfl, hys, hm, S⟩ := hrel
    by_cases hlt : j < xs.length
    · rw [drop_cons hlt] at S hm
      obtain ⟨g, bx, cy, rfl, -, hx, hE⟩ := own_getS S (.head _) j _ (get_mid _ _ _ _ hys)
      go_wp2_with (first
        | (with_reducible refine s_idxS (h := ?_))
        | (with_reducible refine s_fld (h := ?_))
        | ((with_reducible refine gs 16 ?_); refine s_stO (i := j) (off := 0) (y0 := (⟨k + 2 * j, xs[j].den⟩ : Frac)) S .here rfl At.at_ (get_mid _ _ _ _ hys) rfl spl_num rfl ?_; clear S; intro w2 S; rw [set_mid _ _ _ _ _ hys] at S)
        | ((with_reducible refine gs 23 ?_); refine s_stO (i := j) (off := 1) (y0 := (⟨k + 2 * j, k + 2 * j + 1⟩ : Frac)) S .here rfl At.at_ (get_mid _ _ _ _ hys) rfl spl_den rfl ?_; clear S; intro w2 S; rw [set_mid _ _ _ _ _ hys] at S))
      go_roundw
      case rel =>
        refine ⟨j + 1, ys ++ [⟨k + 2 * j, k + 2 * j + 1⟩], hlt, by go_num, by go_num, by simp [hys], hid ?_, by rw [List.append_assoc]; exact S⟩
        rw [hm.out, List.append_assoc]
        congr 1
        show (⟨k + 2 * j, k + 2 * j + 1⟩ : Frac) :: mkFrac.marks _ (k + 2 * j + 2) = ⟨k + 2 * j, k + 2 * j + 1⟩ :: mkFrac.marks _ (k + 2 * ((j + 1 : Nat) : Int))
        rw [show k + 2 * ((j + 1 : Nat) : Int) = k + 2 * j + 2 from by omega]
      case measure => simp [intOf]; omega
    · obtain rfl : j = xs.length := by omega
      go_wp2
      refine s_ret1 S (h := ?_)
      have hm2 := hm.out
      rw [List.drop_length] at hm2
      replace hm2 : mkFrac.marks xs k = ys := hm2.trans (List.append_nil _)
      rw [List.drop_length, List.append_nil] at S
      refine ⟨rfl, ?_⟩
      rw [hm2]
      exact S

set_option maxRecDepth 100000 in
theorem heldFractionS_ok (xs : List Frac) (v : Value) (k : Int) (w : World) (hR : Rd (sl 76 dFrac) w (mkFrac.marks xs k) [v]) (hk0 : 0 ≤ k) (hk1 : mkFrac.nexts xs k ≤ 4611686018427387904) :
    Calls Try.prog 65 #[v, .int .i64 k] w fun e w' => e = .returned (.int .i64 (mkFrac.nexts xs k)) ∧ Chg [] w w' := by
  rw [nexts_frac] at *
  have S := St.start w
  obtain ⟨A, c, rfl, hc1, hc2⟩ := hR.slice
  unfold maxLen at hc2
  rw [marks_len] at hc1
  go_enter Try.func65, Try.ntmps65
  go_wp2
  go_loopw [1, 5] (fun u i wr => ∃ (j : Nat), j ≤ xs.length ∧ u = .int .i64 (k + 2 * j) ∧ i = .int .i64 j ∧ St [] w wr []) (fun _ i _ => xs.length - (intOf i).toNat)
  case atStart => exact ⟨0, Nat.zero_le _, by simp, rfl, S⟩
  case round =>
    clear S
    obtain ⟨j, hj, rfl, rfl, S⟩ := hrel
    by_cases hlt : j < xs.length
    · obtain ⟨ad, cy, rfl, hlen, ⟨_, rfl, _⟩, hE⟩ := (S.rd hR).getS j ⟨k + 2 * j, k + 2 * j + 1⟩ (marks_frac_at xs k j hlt)
      replace hE : El _ _ [.int .i64 (k + 2 * j), .int .i64 (k + 2 * j + 1)] := hE
      have hE1 := hE.add 0
      have hE2 := hE.add 1
      rw [marks_len] at *
      go_wp2_with (first
        | (with_reducible refine s_idxS (h := ?_))
        | (with_reducible refine s_fld (h := ?_))
        | ((with_reducible refine gd 16 ?_); refine s_ldE rfl hE1 rfl ?_)
        | ((with_reducible refine gd 25 ?_); refine s_ldE rfl hE2 rfl ?_))
      go_roundw
      case rel => exact ⟨j + 1, hlt, by go_num, by go_num, S⟩
      case measure => simp [intOf]; omega
    · obtain rfl : j = xs.length := by omega
      rw [marks_len]
      go_wp2
      refine s_ret1 S (h := ?_)
      exact ⟨rfl, S.chg⟩
end Go.Proofs.Ytcfialfgkkjlfaa
