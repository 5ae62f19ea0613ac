/- Contracts: the laws' helpers for lists of whole numbers. -/
import Derived.Test.YtcfialfgkkjlfaaC2
import Derived.Test.YtcfialfgkkjlfaaB2
import Derived.Test.YtcfialfgkkjlfaaA8
set_option linter.unusedSimpArgs false
set_option linter.unusedVariables false
namespace Go.Proofs.Ytcfialfgkkjlfaa
open Go.RowKit Go.Sx Go.Sg
set_option maxRecDepth 100000 in
theorem toInt64S_ok (xs : List (Int)) (v : Value) (w : World) (hR : Rd (sl 2 dInt) w xs [v]) (hl : xs.length * 8 ≤ 281474976710656) :
    Calls Try.prog 17 #[v] w fun e w' => ∃ v' bs, e = .returned v' ∧ St [] w w' [own 2 dInt v' xs bs] := by
  have S := St.start w
  obtain ⟨A, c, rfl, hc1, hc2⟩ := hR.slice
  unfold maxLen at hc2
  go_enter Try.func17, Try.ntmps17
  go_wp2_with (first
   | ((with_reducible refine gd 7 ?_); refine s_make (d := dInt) (x0 := (0 : Int)) S rfl (by decide) rfl rfl (fun _ => ⟨rfl, rfl⟩) (by assumption) (by unfold maxLen; omega) ?_; clear S; intro b w1 S))
  go_loopw [4] (fun i wr => ∃ k : Nat, k ≤ xs.length ∧ i = .int .i64 k ∧ St [] w wr [own 2 dInt (.slice (some ⟨b, 0, none⟩) xs.length xs.length) (fill xs k (0 : Int)) [b]]) (fun i _ => xs.length - (intOf i).toNat)
  case atStart => exact ⟨0, Nat.zero_le _, rfl, by rw [fill_zero]; exact S⟩
  case round =>
    clear S
    obtain ⟨k, hk, rfl, S⟩ := hrel
    by_cases hlt : k < xs.length
    · obtain ⟨ad, cy, rfl, -, ⟨_, rfl, _⟩, hE⟩ := (S.rd hR).getS k _ (List.getElem?_eq_getElem hlt)
      go_wp2_with (first
        | (with_reducible refine s_idxS (h := ?_))
        | ((with_reducible refine gd 19 ?_); refine s_ldE rfl hE rfl ?_)
        | ((with_reducible refine gs 20 ?_); refine s_stW (i := k) (y0 := xs[k]) S .here rfl (by first | exact At.of | exact At.at1 | exact At.at_) (by rw [fill_len hk]; exact hlt) rfl rfl ?_; clear S; intro w2 S))
      go_roundw
      case rel =>
        refine ⟨k + 1, hlt, by go_num, ?_⟩
        rw [fill_set hlt] at S
        exact S
      case measure => simp [intOf]; omega
    · obtain rfl : k = xs.length := by omega
      go_wp2
      refine s_ret1 S (h := ?_)
      exact ⟨_, _, rfl, by rw [fill_all] at S; exact S⟩

set_option maxRecDepth 100000 in
theorem eqInt64S_ok (xs : List (Int)) (v1 v2 : Value) (w : World) (hR : Rd (sl 2 dInt) w xs [v1]) (hR2 : Rd (sl 2 dInt) w xs [v2]) :
    Calls Try.prog 19 #[v1, v2] w fun e w' => e = .returned (.bool true) ∧ Chg [] w w' := by
  have S := St.start w
  obtain ⟨A, c, rfl, hc1, hc2⟩ := hR.slice
  obtain ⟨A2, c2, rfl, hc3, hc4⟩ := hR2.slice
  unfold maxLen at hc2 hc4
  go_enter Try.func19, Try.ntmps19
  go_wp2
  go_loopw [5] (fun i wr => ∃ k : Nat, k ≤ xs.length ∧ i = .int .i64 k ∧ St [] w wr []) (fun i _ => xs.length - (intOf i).toNat)
  case atStart => exact ⟨0, Nat.zero_le _, rfl, S⟩
  case round =>
    clear S
    obtain ⟨k, hk, rfl, S⟩ := hrel
    by_cases hlt : k < xs.length
    · obtain ⟨ad, cy, rfl, -, ⟨_, rfl, _⟩, hE⟩ := (S.rd hR).getS k _ (List.getElem?_eq_getElem hlt)
      obtain ⟨ad2, cy2, rfl, -, ⟨_, rfl, _⟩, hE2⟩ := (S.rd hR2).getS k _ (List.getElem?_eq_getElem hlt)
      replace hE : El _ _ [.int .i64 xs[k]] := hE
      replace hE2 : El _ _ [.int .i64 xs[k]] := hE2
      go_wp2
      refine m_startS 9 [] [0, 1, 2, 3, 4, 5, 6, 7, 8] S ?_
      clear S; intro w hQ S hcD
      replace hE := hE.step hcD; replace hE2 := hE2.step hcD
      (repeat (first | ((with_reducible apply m_P hQ); (case hn => repeat (with_reducible first | exact .zero | apply Nth.succ)); (case hc => kernel_rfl); (case hy => first | exact y_ldE hE | exact y_ldE hE2 | (apply y_idxS <;> first | rfl | omega) | (apply y_quo <;> first | rfl | assumption | omega) | (apply y_pure <;> first | rfl | (intro w'; go_simp; with_reducible rfl))); (case' h => simp only [Act.put, List.setIfInBounds_toArray, List.set_cons_zero, List.set_cons_succ])) | ((with_reducible apply m_R hQ); (case hn => repeat (with_reducible first | exact .zero | apply Nth.succ)); (case hc => kernel_rfl); (case hy => first | exact y_loadA S | exact y_load S | exact y_ldE hE | exact y_ldE hE2 | (apply y_idxS <;> first | rfl | omega)); (case' h => simp only [Act.put, List.setIfInBounds_toArray, List.set_cons_zero, List.set_cons_succ]))))
      (refine m_end (by kernel_rfl) ?_; refine (by assumption : ∀ a w, Code.wp _ _ _ a w → _) _ _ ?_)
      go_wp2
      go_roundw
      case rel => exact ⟨k + 1, hlt, by go_num, S⟩
      case measure => simp [intOf]; omega
    · obtain rfl : k = xs.length := by omega
      go_wp2
      refine s_ret1 S (h := ?_)
      exact ⟨rfl, S.chg⟩

set_option maxRecDepth 100000 in
theorem markInt64S_ok (xs : List (Int)) (v : Value) (k : Int) (bs M : List Nat) (w : World) (S : St M w w [own 2 dInt v xs bs]) (hk0 : 0 ≤ k) (hk1 : mkInt.nexts xs k ≤ 4611686018427387904) :
    Calls Try.prog 23 #[v, .int .i64 k] w fun e w' => e = .returned (.int .i64 (mkInt.nexts xs k)) ∧ St M w w' [own 2 dInt v (mkInt.marks xs k) bs] := by
  rw [nexts_int] at *
  obtain ⟨A, c, rfl, hc1, hc2⟩ := own_slice S (.head _)
  unfold maxLen at hc2
  go_enter Try.func23, Try.ntmps23
  go_wp2
  go_loopw [1, 5] (fun u i wr => ∃ (j : Nat) (ys : List (Int)), j ≤ xs.length ∧ u = .int .i64 (k + j) ∧ i = .int .i64 j ∧ ys.length = j ∧ Hid (mkInt.marks xs k = ys ++ mkInt.marks (xs.drop j) (k + j)) ∧ St M w wr [own 2 dInt (.slice A xs.length c) (ys ++ xs.drop j) bs]) (fun _ i _ => xs.length - (intOf i).toNat)
  case atStart => exact ⟨0, [], Nat.zero_le _, by simp, rfl, rfl, hid (by simp), S⟩
  case round =>
    clear S
    obtain ⟨j, ys, hj, rfl, rfl, hys, hm, S⟩ := hrel
    by_cases hlt : j < xs.length
    · rw [drop_cons hlt] at S hm
      obtain ⟨g, bx, cy, rfl, -, hx, hE⟩ := own_getS S (.head _) j _ (get_mid _ _ _ _ hys)
      have hl := hid ((List.getElem?_eq_some_iff.1 (get_mid ys (xs.drop (j + 1)) xs[j] _ hys)).1)
      go_wp2_with (first
        | (with_reducible refine s_idxS (h := ?_))
        | ((with_reducible refine gs 15 ?_); refine s_stW (i := j) (y0 := k + j) S .here rfl (by first | exact At.of | exact At.at1 | exact At.at_) hl.out rfl rfl ?_; clear S; intro w2 S; rw [set_mid _ _ _ _ _ hys] at S))
      go_roundw
      case rel =>
        refine ⟨j + 1, ys ++ [k + j], hlt, by go_num, by go_num, by simp [hys], hid ?_, by rw [List.append_assoc]; exact S⟩
        rw [hm.out, List.append_assoc]
        congr 1
        show (k + j) :: mkInt.marks _ (k + j + 1) = (k + j) :: mkInt.marks _ (k + ((j + 1 : Nat) : Int))
        rw [show k + ((j + 1 : Nat) : Int) = k + j + 1 from by omega]
      case measure => simp [intOf]; omega
    · obtain rfl : j = xs.length := by omega
      go_wp2
      refine s_ret1 S (h := ?_)
      have hm2 := hm.out
      rw [List.drop_length] at hm2
      replace hm2 : mkInt.marks xs k = ys := hm2.trans (List.append_nil _)
      rw [List.drop_length, List.append_nil] at S
      refine ⟨rfl, ?_⟩
      rw [hm2]
      exact S

end Go.Proofs.Ytcfialfgkkjlfaa
