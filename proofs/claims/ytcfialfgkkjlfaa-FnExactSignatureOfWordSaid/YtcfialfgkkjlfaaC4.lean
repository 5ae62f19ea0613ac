/- Contracts: the laws' helpers for matrices of fractions. -/
import Derived.Test.YtcfialfgkkjlfaaC3
set_option linter.unusedSimpArgs false
set_option linter.unusedVariables false
namespace Go.Proofs.Ytcfialfgkkjlfaa
open Go.RowKit Go.Sx Go.Sg

theorem szFractionSS_ok (xs : List (List Frac)) (left : Int) (v : Value) (w : World) (hR : Rd (sl 82 (sl 140 dFrac)) w xs [v]) (h0 : 0 ≤ left) (h1 : left ≤ 4611686018427387904) :
    Calls Try.prog 9 #[v, .int .i64 left] w fun e w' => e = .returned (.int .i64 (szSS szRow xs left)) ∧ Chg [] w w' := by
  have S := St.start w
  obtain ⟨A, c, rfl, hc1, hc2⟩ := hR.slice
  unfold maxLen at hc2
  by_cases hs : left - xs.length < 0
  · have e : szSS szRow xs left = -1 := by unfold szSS; rw [if_pos hs]
    rw [e]
    go_enter Try.func9, Try.ntmps9
    go_wp2
    refine s_ret1 S (h := ?_)
    exact ⟨rfl, S.chg⟩
  have e : szSS szRow xs left = szFold szRow xs (left - xs.length) := by unfold szSS; rw [if_neg hs]
  rw [e]
  go_enter Try.func9, Try.ntmps9
  go_wp2
  go_loopw [1, 5] (fun u i wr => ∃ (k : Nat) (l : Int), k ≤ xs.length ∧ u = .int .i64 l ∧ 0 ≤ l ∧ l ≤ 4611686018427387904 ∧ i = .int .i64 k ∧ Hid (szFold szRow xs (left - xs.length) = szFold szRow (xs.drop k) l) ∧ St [] w wr []) (fun _ i _ => xs.length - (intOf i).toNat)
  case atStart => exact ⟨0, _, Nat.zero_le _, rfl, by omega, by omega, rfl, hid (by rw [List.drop_zero]), S⟩
  case round =>
    clear S
    obtain ⟨k, l, hk, rfl, hl0, hl1, rfl, hf, S⟩ := hrel
    by_cases hlt : k < xs.length
    · obtain ⟨ad, cy, rfl, -, hRi, hE⟩ := (S.rd hR).getS k _ (List.getElem?_eq_getElem hlt)
      obtain ⟨v', rfl⟩ := sl_one hRi
      rw [drop_cons hlt] at hf
      have hl2 : szRow xs[k] l ≤ l := szRow_le _ _ hl0
      go_wp2_with (first
        | (with_reducible refine s_idxS (h := ?_))
        | ((with_reducible refine gd 21 ?_); refine s_ldE rfl hE rfl ?_)
        | (go_at_call 53; refine (szFractionS_ok _ _ _ _ hRi hl0 hl1).mono ?_; rintro e w1 ⟨rfl, hc⟩; have S := S.step hc; clear hc))
      · refine s_ret1 S (h := ?_)
        refine ⟨?_, S.chg⟩
        have h : szRow xs[k] l < 0 := by assumption
        rw [hf.out]
        unfold szFold
        rw [if_pos h]
        rfl
      · go_roundw
        case rel =>
          have h : 0 ≤ szRow xs[k] l := by assumption
          refine ⟨k + 1, _, hlt, rfl, h, by omega, by go_num, hid ?_, S⟩
          rw [hf.out]
          show (if _ then _ else _) = _
          rw [if_neg (by omega)]
        case measure => simp [intOf]; omega
    · obtain rfl : k = xs.length := by omega
      go_wp2
      refine s_ret1 S (h := ?_)
      refine ⟨?_, S.chg⟩
      rw [hf.out, List.drop_length]
      rfl

set_option maxRecDepth 100000 in
theorem toFractionSS_ok (xs : List (List Frac)) (v : Value) (w : World) (hR : Rd (sl 82 (sl 140 dFrac)) w xs [v]) (hl : xs.length * 24 ≤ 281474976710656) (hli : ∀ x ∈ xs, x.length * 16 ≤ 281474976710656) :
    Calls Try.prog 11 #[v] w fun e w' => ∃ v' bs, e = .returned v' ∧ St [] w w' [own 84 (sl 76 dFrac) v' xs bs] := by
  have S := St.start w
  obtain ⟨A, c, rfl, hc1, hc2⟩ := hR.slice
  unfold maxLen at hc2
  go_enter Try.func11, Try.ntmps11
  go_wp2_with (first
   | ((with_reducible refine gd 7 ?_); refine s_make (d := sl 76 dFrac) (x0 := []) S rfl (by decide) rfl rfl (fun _ => slO_nil) (by assumption) (by unfold maxLen; omega) ?_; clear S; intro b w1 S))
  go_loopw [4] (fun i wr => ∃ (k : Nat) (bs : List Nat), k ≤ xs.length ∧ i = .int .i64 k ∧ St [] w wr [own 84 (sl 76 dFrac) (.slice (some ⟨b, 0, none⟩) xs.length xs.length) (fill xs k []) bs]) (fun i _ => xs.length - (intOf i).toNat)
  case atStart => exact ⟨0, _, Nat.zero_le _, rfl, by rw [fill_zero]; exact S⟩
  case round =>
    clear S
    obtain ⟨k, bs, hk, rfl, S⟩ := hrel
    by_cases hlt : k < xs.length
    · obtain ⟨ad, cy, rfl, -, hRi, hE⟩ := (S.rd hR).getS k _ (List.getElem?_eq_getElem hlt)
      obtain ⟨v', rfl⟩ := sl_one hRi
      obtain ⟨ci, by', bo, -, -, S⟩ := S.open (.take .nil) k (fill_at hlt)
      have S := S.drop (.take (.keep .nil))
      have hli2 := hli _ (List.getElem_mem hlt)
      have hfl : k < (fill xs k []).length := by rw [fill_len hk]; exact hlt
      go_wp2_with (first
        | (with_reducible refine s_idxS (h := ?_))
        | ((with_reducible refine gd 19 ?_); refine s_ldE rfl hE rfl ?_)
        | (go_at_call 58; refine (toFractionS_ok _ _ _ hRi hli2).mono ?_; rintro e w1 ⟨v2, bs2, rfl, T⟩; have S := S.grow T; clear T; obtain ⟨A2, c2, rfl, -, -⟩ := own_slice S (.head _))
        | ((with_reducible refine gs 21 ?_); refine s_stP (i := k) (vs := [.slice A2 _ c2]) S (.there .here) rfl (by first | exact At.of | exact At.at1 | exact At.at_) hfl rfl rfl rfl (by simp [Value.oneCell']) ?_; clear S; intro w2 S))
      go_roundw
      case rel =>
        obtain ⟨bs3, S⟩ := S.close (.take (.take .nil)) hfl
        refine ⟨k + 1, bs3, hlt, by go_num, ?_⟩
        rw [fill_set hlt] at S
        exact S
      case measure => simp [intOf]; omega
    · obtain rfl : k = xs.length := by omega
      go_wp2
      refine s_ret1 S (h := ?_)
      exact ⟨_, _, rfl, by rw [fill_all] at S; exact S⟩

set_option maxRecDepth 100000 in
theorem eqFractionSS_ok (xs : List (List Frac)) (v1 v2 : Value) (w : World) (hR : Rd (sl 84 (sl 76 dFrac)) w xs [v1]) (hR2 : Rd (sl 84 (sl 76 dFrac)) w xs [v2]) :
    Calls Try.prog 13 #[v1, v2] w fun e w' => e = .returned (.bool true) ∧ Chg [] w w' := by
  have S := St.start w
  obtain ⟨A, c, rfl, hc1, hc2⟩ := hR.slice
  obtain ⟨A2, c2, rfl, hc3, hc4⟩ := hR2.slice
  unfold maxLen at hc2 hc4
  go_enter Try.func13, Try.ntmps13
  go_wp2
  go_loopw [5] (fun i wr => ∃ k : Nat, k ≤ xs.length ∧ i = .int .i64 k ∧ St [] w wr []) (fun i _ => xs.length - (intOf i).toNat)
  case atStart => exact ⟨0, Nat.zero_le _, rfl, S⟩
  case round =>
    clear S
    obtain ⟨k, hk, rfl, S⟩ := hrel
    by_cases hlt : k < xs.length
    · obtain ⟨ad, cy, rfl, -, hRi, hE⟩ := (S.rd hR).getS k _ (List.getElem?_eq_getElem hlt)
      obtain ⟨ad2, cy2, rfl, -, hRi2, hE2⟩ := (S.rd hR2).getS k _ (List.getElem?_eq_getElem hlt)
      obtain ⟨v', rfl⟩ := sl_one hRi
      obtain ⟨v2', rfl⟩ := sl_one hRi2
      go_wp2
      refine m_startS 10 [] [0, 1, 2, 3, 4, 5, 6, 7] S ?_
      clear S; intro w hQ S hcD
      replace hE := hE.step hcD; replace hE2 := hE2.step hcD
      (repeat (first | ((with_reducible apply m_P hQ); (case hn => repeat (with_reducible first | exact .zero | apply Nth.succ)); (case hc => kernel_rfl); (case hy => first | exact y_ldE hE | exact y_ldE hE2 | (apply y_idxS <;> first | rfl | omega) | (apply y_quo <;> first | rfl | assumption | omega) | (apply y_pure <;> first | rfl | (intro w'; go_simp; with_reducible rfl))); (case' h => simp only [Act.put, List.setIfInBounds_toArray, List.set_cons_zero, List.set_cons_succ])) | ((with_reducible apply m_R hQ); (case hn => repeat (with_reducible first | exact .zero | apply Nth.succ)); (case hc => kernel_rfl); (case hy => first | exact y_loadA S | exact y_load S | exact y_ldE hE | exact y_ldE hE2 | (apply y_idxS <;> first | rfl | omega)); (case' h => simp only [Act.put, List.setIfInBounds_toArray, List.set_cons_zero, List.set_cons_succ]))))
      refine m_G 8 [] (by kernel_rfl) (by repeat (with_reducible first | exact .zero | apply Nth.succ)) ?_
      go_wp2_with (go_at_call 63; refine (eqFractionS_ok _ _ _ _ (hRi.step hcD) (hRi2.step hcD)).mono ?_; rintro e w1 ⟨rfl, hcN⟩; have S := S.step hcN)
      refine ⟨.inr hcN, ?_⟩; clear hcN; simp only [Act.put, List.setIfInBounds_toArray, List.set_cons_zero, List.set_cons_succ]
      (refine m_G 9 [] (by kernel_rfl) (by repeat (with_reducible first | exact .zero | apply Nth.succ)) ?_; go_wp2; refine ⟨.inr (Chg.refl _ _), ?_⟩; simp only [Act.put, List.setIfInBounds_toArray, List.set_cons_zero, List.set_cons_succ])
      (refine m_end (by kernel_rfl) ?_; refine (by assumption : ∀ a w, Code.wp _ _ _ a w → _) _ _ ?_)
      go_wp2
      go_roundw
      case rel => exact ⟨k + 1, hlt, by go_num, S⟩
      case measure => simp [intOf]; omega
    · obtain rfl : k = xs.length := by omega
      go_wp2
      refine s_ret1 S (h := ?_)
      exact ⟨rfl, S.chg⟩

set_option maxRecDepth 100000 in
theorem markFractionSS_ok (xs : List (List Frac)) (v : Value) (k : Int) (bs M : List Nat) (w : World) (S : St M w w [own 84 (sl 76 dFrac) v xs bs]) (hk0 : 0 ≤ k) (hk1 : (mkL mkFrac).nexts xs k ≤ 4611686018427387904) :
    Calls Try.prog 14 #[v, .int .i64 k] w fun e w' => e = .returned (.int .i64 ((mkL mkFrac).nexts xs k)) ∧ ∃ bs', St M w w' [own 84 (sl 76 dFrac) v ((mkL mkFrac).marks xs k) bs'] := by
  obtain ⟨A, c, rfl, hc1, hc2⟩ := own_slice S (.head _)
  unfold maxLen at hc2
  go_enter Try.func14, Try.ntmps14
  go_wp2
  go_loopw [1, 5] (fun u i wr => ∃ (j : Nat) (kj : Int) (ys : List (List Frac)) (bs' : List Nat), j ≤ xs.length ∧ u = .int .i64 kj ∧ 0 ≤ kj ∧ i = .int .i64 j ∧ ys.length = j ∧ Hid ((mkL mkFrac).nexts xs k = (mkL mkFrac).nexts (xs.drop j) kj) ∧ Hid ((mkL mkFrac).marks xs k = ys ++ (mkL mkFrac).marks (xs.drop j) kj) ∧ St M w wr [own 84 (sl 76 dFrac) (.slice A xs.length c) (ys ++ xs.drop j) bs']) (fun _ i _ => xs.length - (intOf i).toNat)
  case atStart => exact ⟨0, k, [], bs, Nat.zero_le _, rfl, hk0, rfl, rfl, hid rfl, hid rfl, S⟩
  case round =>
    clear S
    obtain ⟨j, kj, ys, bs', hj, rfl, hkj, rfl, hys, hn, hm, S⟩ := hrel
    by_cases hlt : j < xs.length
    · rw [drop_cons hlt] at S hm hn
      have hn1 : mkFrac.nexts xs[j] kj ≤ 4611686018427387904 := by
        have h := hn.out
        have h2 : (mkL mkFrac).nexts (xs[j] :: xs.drop (j + 1)) kj = (mkL mkFrac).nexts (xs.drop (j + 1)) (mkFrac.nexts xs[j] kj) := rfl
        have h3 := (up_frac).list.nexts (xs.drop (j + 1)) (mkFrac.nexts xs[j] kj)
        omega
      have hn2 := (up_frac).nexts xs[j] kj
      have hgm := hid (get_mid ys (xs.drop (j + 1)) xs[j] _ hys)
      obtain ⟨ci, by', bo, -, hci, S⟩ := S.open (.take .nil) j hgm.out
      obtain ⟨v', rfl⟩ := slO_one hci
      have hpl : j < (ys ++ xs[j] :: xs.drop (j + 1)).length := (List.getElem?_eq_some_iff.1 hgm.out).1
      obtain ⟨g, bx, cy, rfl, -, ⟨-, rfl, -⟩, hE⟩ := own_getS S (.tail _ (.head _)) j _ (pit_at hpl)
      have hE1 := El.at1 hE
      have hpl := hid hpl
      go_wp2_with (first
        | (with_reducible refine s_idxS (h := ?_))
        | ((with_reducible refine gd 15 ?_); first | refine s_ldE rfl hE rfl ?_ | refine s_ldE rfl hE1 rfl ?_)
        | (go_at_call 64; refine (markFractionS_ok _ _ _ _ _ _ (S.piece (.take (.keep .nil))) hkj hn1).mono ?_; rintro e w1 ⟨rfl, T⟩; have S := S.call (.take (.keep .nil)) T; clear T))
      go_roundw
      case rel =>
        obtain ⟨bs3, S⟩ := S.close (.take (.take .nil)) hpl.out
        rw [set_mid _ _ _ _ _ hys] at S
        refine ⟨j + 1, _, ys ++ [mkFrac.marks xs[j] kj], bs3, hlt, rfl, by omega, by go_num, by simp [hys], hid hn.out, hid ?_, by rw [List.append_assoc]; exact S⟩
        rw [hm.out, List.append_assoc]
        rfl
      case measure => simp [intOf]; omega
    · obtain rfl : j = xs.length := by omega
      go_wp2
      refine s_ret1 S (h := ?_)
      have hm2 := hm.out
      have hn2 := hn.out
      rw [List.drop_length] at hm2 hn2
      replace hm2 : (mkL mkFrac).marks xs k = ys := hm2.trans (List.append_nil _)
      rw [List.drop_length, List.append_nil] at S
      refine ⟨by rw [hn2]; rfl, bs', ?_⟩
      rw [hm2]
      exact S

set_option maxRecDepth 100000 in
theorem heldFractionSS_ok (xs : List (List Frac)) (v : Value) (k : Int) (w : World) (hR : Rd (sl 84 (sl 76 dFrac)) w ((mkL mkFrac).marks xs k) [v]) (hk0 : 0 ≤ k) (hk1 : (mkL mkFrac).nexts xs k ≤ 4611686018427387904) :
    Calls Try.prog 15 #[v, .int .i64 k] w fun e w' => e = .returned (.int .i64 ((mkL mkFrac).nexts xs k)) ∧ Chg [] w w' := by
  have S := St.start w
  obtain ⟨A, c, rfl, hc1, hc2⟩ := hR.slice
  unfold maxLen at hc2
  rw [marks_len] at hc1
  go_enter Try.func15, Try.ntmps15
  go_wp2
  go_loopw [1, 5] (fun u i wr => ∃ (j : Nat) (kj : Int), j ≤ xs.length ∧ u = .int .i64 kj ∧ 0 ≤ kj ∧ i = .int .i64 j ∧ Hid ((mkL mkFrac).nexts xs k = (mkL mkFrac).nexts (xs.drop j) kj) ∧ Hid (((mkL mkFrac).marks xs k).drop j = (mkL mkFrac).marks (xs.drop j) kj) ∧ St [] w wr []) (fun _ i _ => xs.length - (intOf i).toNat)
  case atStart => exact ⟨0, k, Nat.zero_le _, rfl, hk0, rfl, hid rfl, hid rfl, S⟩
  case round =>
    clear S
    obtain ⟨j, kj, hj, rfl, hkj, rfl, hn, hm, S⟩ := hrel
    by_cases hlt : j < xs.length
    · rw [drop_cons hlt] at hm hn
      have hn1 : mkFrac.nexts xs[j] kj ≤ 4611686018427387904 := by
        have h := hn.out
        have h2 : (mkL mkFrac).nexts (xs[j] :: xs.drop (j + 1)) kj = (mkL mkFrac).nexts (xs.drop (j + 1)) (mkFrac.nexts xs[j] kj) := rfl
        have h3 := (up_frac).list.nexts (xs.drop (j + 1)) (mkFrac.nexts xs[j] kj)
        omega
      have hn2 := (up_frac).nexts xs[j] kj
      have hgm : ((mkL mkFrac).marks xs k)[j]? = some (mkFrac.marks xs[j] kj) := by
        have h : (((mkL mkFrac).marks xs k).drop j)[0]? = some (mkFrac.marks xs[j] kj) := by rw [hm.out]; rfl
        simpa using h
      obtain ⟨ad, cy, rfl, hlen, hRi, hE⟩ := (S.rd hR).getS j _ hgm
      obtain ⟨v', rfl⟩ := sl_one hRi
      rw [marks_len] at *
      go_wp2_with (first
        | (with_reducible refine s_idxS (h := ?_))
        | ((with_reducible refine gd 15 ?_); refine s_ldE rfl hE rfl ?_)
        | (go_at_call 65; refine (heldFractionS_ok _ _ _ _ hRi hkj hn1).mono ?_; rintro e w1 ⟨rfl, hc⟩; have S := S.step hc; clear hc))
      go_roundw
      case rel =>
        refine ⟨j + 1, _, hlt, rfl, by omega, by go_num, hid hn.out, hid ?_, S⟩
        have h := congrArg List.tail hm.out
        rw [List.tail_drop] at h
        exact h
      case measure => simp [intOf]; omega
    · obtain rfl : j = xs.length := by omega
      rw [marks_len]
      go_wp2
      refine s_ret1 S (h := ?_)
      refine ⟨?_, S.chg⟩
      rw [hn.out, List.drop_length]
      rfl

end Go.Proofs.Ytcfialfgkkjlfaa
