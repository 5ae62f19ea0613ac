/- Contracts: MultiplyTables of the program. -/
import Derived.Test.YtcfialfgkkjlfaaC6
import Derived.Test.YtcfialfgkkjlfaaB3
set_option linter.unusedSimpArgs false
set_option linter.unusedVariables false
namespace Go.Proofs.Ytcfialfgkkjlfaa
open Go.RowKit Go.Sx Go.Sg

theorem sqF_get {m : List (List Frac)} {n i : Nat} (h : sqF n m = true) (hi : i < n) : ∃ r, m[i]? = some r ∧ r.length = n ∧ ∀ k, k < n → r[k]? = some (at2 m i k) ∧ isF (at2 m i k) = true := by
  simp only [sqF, Bool.and_eq_true, decide_eq_true_eq, Bool.not_eq_true', List.any_eq_false] at h
  obtain ⟨_, hl, ha⟩ := h
  have hl' : i < m.length := by omega
  have hr := ha _ (List.getElem_mem hl')
  simp only [badRow, Bool.not_eq_true, Bool.not_eq_false', Bool.and_eq_true, decide_eq_true_eq] at hr
  refine ⟨m[i], List.getElem?_eq_getElem hl', by omega, fun k hk => ?_⟩
  have hk' : k < m[i].length := by omega
  have e : at2 m i k = m[i][k] := by simp [at2, hl', hk']
  rw [e]
  exact ⟨List.getElem?_eq_getElem hk', List.all_eq_true.1 hr.2 _ (List.getElem_mem hk')⟩
theorem sqF_b {m : List (List Frac)} {n : Nat} (h : sqF n m = true) : 1 ≤ n ∧ n ≤ 6 ∧ m.length = n := by
  simp only [sqF, Bool.and_eq_true, decide_eq_true_eq] at h
  have := inB_iff.1 h.1
  omega
/-- What MultiplyTables gives. -/
def mulOut (ma mb : List (List Frac)) : Option (List (List Frac)) × Int :=
  if sqF ma.length ma && sqF ma.length mb then match mulTab ma mb with
    | some t => (some t, 0)
    | none => (none, 3)
  else (none, 1)
set_option maxRecDepth 100000 in
set_option maxHeartbeats 800000 in
theorem MultiplyTables_ok (ma mb : List (List Frac)) (v1 v2 : Value) (w : World) (hR : Rd (sl 84 (sl 76 dFrac)) w ma [v1]) (hR2 : Rd (sl 84 (sl 76 dFrac)) w mb [v2]) :
    Calls Try.prog 12 #[v1, v2] w fun e w' => ∃ v' bs, e = .returned (.tuple #[v', .int .i64 (mulOut ma mb).2]) ∧ St [] w w' [own 84 (sl 76 dFrac) v' ((mulOut ma mb).1.getD []) bs] := by
  have S := St.start w
  obtain ⟨A, c, rfl, hc1, hc2⟩ := hR.slice
  obtain ⟨A2, c2, rfl, hc3, hc4⟩ := hR2.slice
  unfold maxLen at hc2 hc4
  generalize hna : ma.length = n at *
  by_cases hsq : (sqF n ma && sqF n mb) = true
  · have hout : mulOut ma mb = match mulTab ma mb with | some t => (some t, 0) | none => (none, 3) := by unfold mulOut; rw [hna, if_pos hsq]
    rw [Bool.and_eq_true] at hsq
    obtain ⟨ha, hb⟩ := hsq
    obtain ⟨hn1, hn2, -⟩ := sqF_b ha
    obtain ⟨-, -, hnb⟩ := sqF_b hb
    rw [hnb] at hR2 hc3
    replace hout := hid hout
    obtain ⟨r0, h0, -⟩ := sqF_get ha (show 0 < n by omega)
    obtain ⟨adA, -, rfl, -⟩ := hR.getS 0 _ h0
    obtain ⟨r0, h0, -⟩ := sqF_get hb (show 0 < n by omega)
    obtain ⟨adB, -, rfl, -⟩ := hR2.getS 0 _ h0
    clear h0 r0
    go_enter Try.func12, Try.ntmps12
    go_wp2_with (first
      | (go_at_call 59; (first | (with_reducible refine (isFractionMatrix_ok ma n (.slice (some adA) n c) _ (S.rd hR)).mono ?_) | (with_reducible refine (isFractionMatrix_ok mb n (.slice (some adB) n c2) _ (S.rd hR2)).mono ?_)); rintro e w1 ⟨rfl, hc⟩; have S := S.step hc; clear hc)
      | (go_at_call 60; refine (fractions_ok n _ hn1 hn2).mono ?_; rintro e w1 ⟨v3, bs3, rfl, T⟩; have S := S.grow T; clear T))
    obtain ⟨A3, c3, rfl, -, -⟩ := own_slice S (.head _)
    rw [List.length_replicate] at S ⊢
    obtain ⟨g, -, -, rfl, -, -, -⟩ := own_getS S (.head _) 0 (List.replicate n ⟨0, 1⟩) (by rw [List.getElem?_replicate, if_pos (by omega)])
    go_loopw [30] (fun y wr => ∃ (i : Nat) (t : List (List Frac)) (bs : List Nat), i ≤ n ∧ y = .int .i64 i ∧ t.length = i ∧ Hid (tabU ma mb n i = some t) ∧ St [] w wr [own 84 (sl 76 dFrac) (.slice (some ⟨g, 0, none⟩) n c3) (t ++ List.replicate (n - i) (List.replicate n f01)) bs]) (fun i _ => n - (intOf i).toNat)
    case atStart => exact ⟨0, [], _, Nat.zero_le _, rfl, rfl, hid rfl, S⟩
    case round =>
      clear S
      obtain ⟨i, t, bs, hi, rfl, ht, htab, S⟩ := hrel
      by_cases hlt : i < n
      · rw [rep_cons _ hlt] at S
        have hgm := hid (get_mid t (List.replicate (n - (i + 1)) (List.replicate n f01)) (List.replicate n f01) _ ht)
        obtain ⟨ci, by', bo, -, hci, S⟩ := S.open (.take .nil) i hgm.out
        obtain ⟨v', rfl⟩ := slO_one hci
        clear hci
        obtain ⟨A4, c4, rfl, -, -⟩ := own_slice S (.head _)
        rw [List.length_replicate] at S
        obtain ⟨g4, -, -, rfl, -, -, -⟩ := own_getS S (.head _) 0 f01 (by rw [List.getElem?_replicate, if_pos (by omega)])
        have hpl := hid ((List.getElem?_eq_some_iff.1 hgm.out).1)
        go_wp2
        go_loopw [34] (fun y wr => ∃ (j : Nat) (r : List Frac), j ≤ n ∧ y = .int .i64 j ∧ r.length = j ∧ Hid (rowU ma mb i n j = some r) ∧ St [] w wr [own 76 dFrac (.slice (some ⟨g4, 0, none⟩) n c4) (r ++ List.replicate (n - j) f01) by', own 84 (raw (sl 76 dFrac)) (.slice (some ⟨g, 0, none⟩) n c3) (pit (t ++ List.replicate n f01 :: List.replicate (n - (i + 1)) (List.replicate n f01)) i [.slice (some ⟨g4, 0, none⟩) n c4]) bo]) (fun i _ => n - (intOf i).toNat)
        case atStart => exact ⟨0, [], Nat.zero_le _, rfl, rfl, hid rfl, S⟩
        case round =>
          clear S
          obtain ⟨j, r, hj, rfl, hr, hrow, S⟩ := hrel
          by_cases hltj : j < n
          · rw [rep_cons _ hltj] at S
            go_wp2
            go_loopw [38] (fun y wr => ∃ (k : Nat) (s : Frac), k ≤ n ∧ y = .int .i64 k ∧ Hid (dotU ma mb i j k = some s) ∧ St [] w wr [own 76 dFrac (.slice (some ⟨g4, 0, none⟩) n c4) (r ++ s :: List.replicate (n - (j + 1)) f01) by', own 84 (raw (sl 76 dFrac)) (.slice (some ⟨g, 0, none⟩) n c3) (pit (t ++ List.replicate n f01 :: List.replicate (n - (i + 1)) (List.replicate n f01)) i [.slice (some ⟨g4, 0, none⟩) n c4]) bo]) (fun i _ => n - (intOf i).toNat)
            case atStart => exact ⟨0, f01, Nat.zero_le _, rfl, hid rfl, S⟩
            case round =>
              clear S
              obtain ⟨k, s, hk, rfl, hdot, S⟩ := hrel
              by_cases hltk : k < n
              · obtain ⟨ra, hra, hral, hrae⟩ := sqF_get ha hlt
                obtain ⟨rb, hrb, hrbl, hrbe⟩ := sqF_get hb hltk
                obtain ⟨hxa, hia⟩ := hrae k hltk
                obtain ⟨hxb, hib⟩ := hrbe j hltj
                clear hrae hrbe
                obtain ⟨_, cyA, hA1, -, hRa, hEa⟩ := (S.rd hR).getS i _ hra
                cases hA1
                obtain ⟨Aa, ca, hva, -, -⟩ := (show ∃ A c, cyA = [.slice A ra.length c] ∧ ra.length ≤ c ∧ c ≤ maxLen from by obtain ⟨v, rfl⟩ := sl_one hRa; obtain ⟨A, c, rfl, h1, h2⟩ := hRa.slice; exact ⟨A, c, rfl, h1, h2⟩)
                subst hva
                obtain ⟨adAa, _, rfl, -, ⟨_, rfl, _⟩, hEa2⟩ := hRa.getS k _ hxa
                replace hEa2 : El _ _ [.int .i64 (at2 ma i k).num, .int .i64 (at2 ma i k).den] := hEa2
                obtain ⟨_, cyB, hA1, -, hRb, hEb⟩ := (S.rd hR2).getS k _ hrb
                cases hA1
                obtain ⟨Ab, cb, hvb, -, -⟩ := (show ∃ A c, cyB = [.slice A rb.length c] ∧ rb.length ≤ c ∧ c ≤ maxLen from by obtain ⟨v, rfl⟩ := sl_one hRb; obtain ⟨A, c, rfl, h1, h2⟩ := hRb.slice; exact ⟨A, c, rfl, h1, h2⟩)
                subst hvb
                obtain ⟨adBb, _, rfl, -, ⟨_, rfl, _⟩, hEb2⟩ := hRb.getS j _ hxb
                replace hEb2 : El _ _ [.int .i64 (at2 mb k j).num, .int .i64 (at2 mb k j).den] := hEb2
                go_wp2
                refine m_startS 21 [19] [0, 1, 2, 3, 4, 5, 6, 7, 8, 9, 10, 11, 12, 13] S ?_
                clear S; intro w hQ S hcD
                replace hEa := hEa.step hcD; replace hEa2 := hEa2.step hcD; replace hEb := hEb.step hcD; replace hEb2 := hEb2.step hcD
                (repeat (first | ((with_reducible apply m_P hQ); (case hn => repeat (with_reducible first | exact .zero | apply Nth.succ)); (case hc => kernel_rfl); (case hy => first | exact y_ldE hEa | exact y_ldEA hEa2 | exact y_ldE hEb | exact y_ldEA hEb2 | (apply y_idxS <;> first | rfl | omega) | (apply y_quo <;> first | rfl | assumption | omega) | (apply y_pure <;> first | rfl | (intro w'; go_simp; with_reducible rfl))); (case' h => simp only [Act.put, List.setIfInBounds_toArray, List.set_cons_zero, List.set_cons_succ])) | ((with_reducible apply m_R hQ); (case hn => repeat (with_reducible first | exact .zero | apply Nth.succ)); (case hc => kernel_rfl); (case hy => first | exact y_loadA S | exact y_load S | exact y_ldE hEa | exact y_ldEA hEa2 | exact y_ldE hEb | exact y_ldEA hEb2 | (apply y_idxS <;> first | rfl | omega)); (case' h => simp only [Act.put, List.setIfInBounds_toArray, List.set_cons_zero, List.set_cons_succ]))))
                apply m_join
                case br =>
                  intro hJ
                  refine m_G2 14 18 [15, 16, 17] [] (by kernel_rfl) (by repeat (with_reducible first | exact .zero | apply Nth.succ)) (by repeat (with_reducible first | exact .zero | apply Nth.succ)) ?_ ?_
                  · go_wp2_with (go_at_call 61; refine (times_ok (at2 ma i k) (at2 mb k j) _ hia hib).mono ?_; rintro e w1 ⟨rfl, hcN⟩; have S := S.step hcN)
                    refine ⟨.inr hcN, ?_⟩; clear hcN; simp only [Act.put, List.setIfInBounds_toArray, List.set_cons_zero, List.set_cons_succ]
                    (repeat (first | ((with_reducible apply m_P hQ); (case hn => repeat (with_reducible first | exact .zero | apply Nth.succ)); (case hc => kernel_rfl); (case hy => first | fail | (apply y_quo <;> first | rfl | assumption | omega) | (apply y_pure <;> first | rfl | (intro w'; go_simp; with_reducible rfl))); (case' h => simp only [Act.put, List.setIfInBounds_toArray, List.set_cons_zero, List.set_cons_succ])) | ((with_reducible apply m_R hQ); (case hn => repeat (with_reducible first | exact .zero | apply Nth.succ)); (case hc => kernel_rfl); (case hy => first | exact y_loadA S | exact y_load S | fail); (case' h => simp only [Act.put, List.setIfInBounds_toArray, List.set_cons_zero, List.set_cons_succ]))))
                    (refine m_G 18 [] (by kernel_rfl) (by repeat (with_reducible first | exact .zero | apply Nth.succ)) ?_; go_wp2_with (first | ((with_reducible refine s_box S (h := ?_)); clear S; intro b w S hcN) | ((with_reducible refine s_alloc S (h := ?_)); clear S; intro b w S hcN) | (with_reducible refine s_load S (h := ?_)) | (with_reducible refine s_loadA S (h := ?_)) | ((with_reducible refine s_store S (h := ?_)); clear S; intro w S)); refine ⟨.inr hcN, ?_⟩; clear hcN; simp only [Act.put, List.setIfInBounds_toArray, List.set_cons_zero, List.set_cons_succ])
                    (refine m_G 19 [] (by kernel_rfl) (by repeat (with_reducible first | exact .zero | apply Nth.succ)) ?_; go_wp2_with (first | ((with_reducible refine s_box S (h := ?_)); clear S; intro b w S hcN; clear hcN) | ((with_reducible refine s_alloc S (h := ?_)); clear S; intro b w S hcN; clear hcN) | (with_reducible refine s_load S (h := ?_)) | (with_reducible refine s_loadA S (h := ?_)) | ((with_reducible refine s_store S (h := ?_)); clear S; intro w S)); refine ⟨.inl rfl, ?_⟩; simp only [Act.put, List.setIfInBounds_toArray, List.set_cons_zero, List.set_cons_succ])
                    (refine m_G 20 [] (by kernel_rfl) (by repeat (with_reducible first | exact .zero | apply Nth.succ)) ?_; go_wp2; refine ⟨.inr (Chg.refl _ _), ?_⟩; simp only [Act.put, List.setIfInBounds_toArray, List.set_cons_zero, List.set_cons_succ])
                    refine m_end (by kernel_rfl) ?_
                    exact hJ b w S
                  · go_wp2_with (first | ((with_reducible refine s_box S (h := ?_)); clear S; intro b w S hcN) | ((with_reducible refine s_alloc S (h := ?_)); clear S; intro b w S hcN) | (with_reducible refine s_load S (h := ?_)) | (with_reducible refine s_loadA S (h := ?_)) | ((with_reducible refine s_store S (h := ?_)); clear S; intro w S))
                    refine ⟨.inr hcN, ?_⟩; clear hcN; simp only [Act.put, List.setIfInBounds_toArray, List.set_cons_zero, List.set_cons_succ]
                    refine m_G 14 [15, 16, 17] (by kernel_rfl) (by repeat (with_reducible first | exact .zero | apply Nth.succ)) ?_
                    go_wp2_with (go_at_call 61; refine (times_ok (at2 ma i k) (at2 mb k j) _ hia hib).mono ?_; rintro e w1 ⟨rfl, hcN⟩; have S := S.step hcN)
                    refine ⟨.inr hcN, ?_⟩; clear hcN; simp only [Act.put, List.setIfInBounds_toArray, List.set_cons_zero, List.set_cons_succ]
                    (repeat (first | ((with_reducible apply m_P hQ); (case hn => repeat (with_reducible first | exact .zero | apply Nth.succ)); (case hc => kernel_rfl); (case hy => first | fail | (apply y_quo <;> first | rfl | assumption | omega) | (apply y_pure <;> first | rfl | (intro w'; go_simp; with_reducible rfl))); (case' h => simp only [Act.put, List.setIfInBounds_toArray, List.set_cons_zero, List.set_cons_succ])) | ((with_reducible apply m_R hQ); (case hn => repeat (with_reducible first | exact .zero | apply Nth.succ)); (case hc => kernel_rfl); (case hy => first | exact y_loadA S | exact y_load S | fail); (case' h => simp only [Act.put, List.setIfInBounds_toArray, List.set_cons_zero, List.set_cons_succ]))))
                    (refine m_G 19 [] (by kernel_rfl) (by repeat (with_reducible first | exact .zero | apply Nth.succ)) ?_; go_wp2_with (first | ((with_reducible refine s_box S (h := ?_)); clear S; intro b w S hcN; clear hcN) | ((with_reducible refine s_alloc S (h := ?_)); clear S; intro b w S hcN; clear hcN) | (with_reducible refine s_load S (h := ?_)) | (with_reducible refine s_loadA S (h := ?_)) | ((with_reducible refine s_store S (h := ?_)); clear S; intro w S)); refine ⟨.inl rfl, ?_⟩; simp only [Act.put, List.setIfInBounds_toArray, List.set_cons_zero, List.set_cons_succ])
                    (refine m_G 20 [] (by kernel_rfl) (by repeat (with_reducible first | exact .zero | apply Nth.succ)) ?_; go_wp2; refine ⟨.inr (Chg.refl _ _), ?_⟩; simp only [Act.put, List.setIfInBounds_toArray, List.set_cons_zero, List.set_cons_succ])
                    refine m_end (by kernel_rfl) ?_
                    exact hJ b w S
                case cont =>
                clear hQ
                intro b1 w S
                refine (by assumption : ∀ a w, Code.wp _ _ _ a w → _) _ _ ?_
                have hstep := hid (dotU_step hdot.out)
                have hmul := hid (mulF_fit hia hib)
                have hs := dotU_isF hdot.out
                go_wp2
                · refine s_ret2 S (h := ?_)
                  have hp : isF (mulR (at2 ma i k) (at2 mb k j)) = false := by first | assumption | simpa using (by assumption : (!isF (mulR (at2 ma i k) (at2 mb k j))) = true)
                  have hf : mulTab ma mb = none := by
                    unfold mulTab
                    rw [hna]
                    refine tab_fail (k := k + 1) ?_ hltk hltj hlt
                    rw [hstep.out, hmul.out, hp]
                    rfl
                  rw [show mulOut ma mb = (none, 3) from by rw [hout.out, hf]]
                  exact ⟨_, [], rfl, S.nilOwn⟩
                · have hp : isF (mulR (at2 ma i k) (at2 mb k j)) = true := by first | assumption | simpa using (by assumption : (!isF (mulR (at2 ma i k) (at2 mb k j))) = false)
                  obtain ⟨_, _, _, hgA, -, ⟨-, rfl, -⟩, hEo⟩ := own_getS S (.tail _ (.tail _ (.head _))) i _ (pit_at hpl.out)
                  cases hgA
                  obtain ⟨_, _, _, hgA, -, ⟨-, rfl⟩, hEs⟩ := own_getS S (.tail _ (.head _)) j s (get_mid r _ s _ hr)
                  cases hgA
                  replace hEs : El _ _ [.int .i64 s.num, .int .i64 s.den] := hEs
                  clear hEa hEa2 hEb hEb2
                  refine m_startS 15 [13] [0, 1, 2, 3, 4, 5, 6, 7] S ?_
                  clear S; intro w hQ S hcD
                  replace hEo := hEo.step hcD; replace hEs := hEs.step hcD
                  (repeat (first | ((with_reducible apply m_P hQ); (case hn => repeat (with_reducible first | exact .zero | apply Nth.succ)); (case hc => kernel_rfl); (case hy => first | exact y_ldE hEo | exact y_ldEA hEs | (apply y_idxS <;> first | rfl | omega) | (apply y_quo <;> first | rfl | assumption | omega) | (apply y_pure <;> first | rfl | (intro w'; go_simp; with_reducible rfl))); (case' h => simp only [Act.put, List.setIfInBounds_toArray, List.set_cons_zero, List.set_cons_succ])) | ((with_reducible apply m_R hQ); (case hn => repeat (with_reducible first | exact .zero | apply Nth.succ)); (case hc => kernel_rfl); (case hy => first | exact y_loadA S | exact y_load S | exact y_ldE hEo | exact y_ldEA hEs | (apply y_idxS <;> first | rfl | omega)); (case' h => simp only [Act.put, List.setIfInBounds_toArray, List.set_cons_zero, List.set_cons_succ]))))
                  apply m_join
                  case br =>
                    intro hJ
                    refine m_G2 8 12 [9, 10, 11] [] (by kernel_rfl) (by repeat (with_reducible first | exact .zero | apply Nth.succ)) (by repeat (with_reducible first | exact .zero | apply Nth.succ)) ?_ ?_
                    · go_wp2_with (go_at_call 62; refine (plus_ok s (mulR (at2 ma i k) (at2 mb k j)) _ hs hp).mono ?_; rintro e w1 ⟨rfl, hcN⟩; have S := S.step hcN)
                      refine ⟨.inr hcN, ?_⟩; clear hcN; simp only [Act.put, List.setIfInBounds_toArray, List.set_cons_zero, List.set_cons_succ]
                      (repeat (first | ((with_reducible apply m_P hQ); (case hn => repeat (with_reducible first | exact .zero | apply Nth.succ)); (case hc => kernel_rfl); (case hy => first | fail | (apply y_quo <;> first | rfl | assumption | omega) | (apply y_pure <;> first | rfl | (intro w'; go_simp; with_reducible rfl))); (case' h => simp only [Act.put, List.setIfInBounds_toArray, List.set_cons_zero, List.set_cons_succ])) | ((with_reducible apply m_R hQ); (case hn => repeat (with_reducible first | exact .zero | apply Nth.succ)); (case hc => kernel_rfl); (case hy => first | exact y_loadA S | exact y_load S | fail); (case' h => simp only [Act.put, List.setIfInBounds_toArray, List.set_cons_zero, List.set_cons_succ]))))
                      (refine m_G 12 [] (by kernel_rfl) (by repeat (with_reducible first | exact .zero | apply Nth.succ)) ?_; go_wp2_with (first | ((with_reducible refine s_box S (h := ?_)); clear S; intro b w S hcN) | ((with_reducible refine s_alloc S (h := ?_)); clear S; intro b w S hcN) | (with_reducible refine s_load S (h := ?_)) | (with_reducible refine s_loadA S (h := ?_)) | ((with_reducible refine s_store S (h := ?_)); clear S; intro w S)); refine ⟨.inr hcN, ?_⟩; clear hcN; simp only [Act.put, List.setIfInBounds_toArray, List.set_cons_zero, List.set_cons_succ])
                      (refine m_G 13 [] (by kernel_rfl) (by repeat (with_reducible first | exact .zero | apply Nth.succ)) ?_; go_wp2_with (first | ((with_reducible refine s_box S (h := ?_)); clear S; intro b w S hcN; clear hcN) | ((with_reducible refine s_alloc S (h := ?_)); clear S; intro b w S hcN; clear hcN) | (with_reducible refine s_load S (h := ?_)) | (with_reducible refine s_loadA S (h := ?_)) | ((with_reducible refine s_store S (h := ?_)); clear S; intro w S)); refine ⟨.inl rfl, ?_⟩; simp only [Act.put, List.setIfInBounds_toArray, List.set_cons_zero, List.set_cons_succ])
                      (refine m_G 14 [] (by kernel_rfl) (by repeat (with_reducible first | exact .zero | apply Nth.succ)) ?_; go_wp2; refine ⟨.inr (Chg.refl _ _), ?_⟩; simp only [Act.put, List.setIfInBounds_toArray, List.set_cons_zero, List.set_cons_succ])
                      refine m_end (by kernel_rfl) ?_
                      exact hJ b w S
                    · go_wp2_with (first | ((with_reducible refine s_box S (h := ?_)); clear S; intro b w S hcN) | ((with_reducible refine s_alloc S (h := ?_)); clear S; intro b w S hcN) | (with_reducible refine s_load S (h := ?_)) | (with_reducible refine s_loadA S (h := ?_)) | ((with_reducible refine s_store S (h := ?_)); clear S; intro w S))
                      refine ⟨.inr hcN, ?_⟩; clear hcN; simp only [Act.put, List.setIfInBounds_toArray, List.set_cons_zero, List.set_cons_succ]
                      refine m_G 8 [9, 10, 11] (by kernel_rfl) (by repeat (with_reducible first | exact .zero | apply Nth.succ)) ?_
                      go_wp2_with (go_at_call 62; refine (plus_ok s (mulR (at2 ma i k) (at2 mb k j)) _ hs hp).mono ?_; rintro e w1 ⟨rfl, hcN⟩; have S := S.step hcN)
                      refine ⟨.inr hcN, ?_⟩; clear hcN; simp only [Act.put, List.setIfInBounds_toArray, List.set_cons_zero, List.set_cons_succ]
                      (repeat (first | ((with_reducible apply m_P hQ); (case hn => repeat (with_reducible first | exact .zero | apply Nth.succ)); (case hc => kernel_rfl); (case hy => first | fail | (apply y_quo <;> first | rfl | assumption | omega) | (apply y_pure <;> first | rfl | (intro w'; go_simp; with_reducible rfl))); (case' h => simp only [Act.put, List.setIfInBounds_toArray, List.set_cons_zero, List.set_cons_succ])) | ((with_reducible apply m_R hQ); (case hn => repeat (with_reducible first | exact .zero | apply Nth.succ)); (case hc => kernel_rfl); (case hy => first | exact y_loadA S | exact y_load S | fail); (case' h => simp only [Act.put, List.setIfInBounds_toArray, List.set_cons_zero, List.set_cons_succ]))))
                      (refine m_G 13 [] (by kernel_rfl) (by repeat (with_reducible first | exact .zero | apply Nth.succ)) ?_; go_wp2_with (first | ((with_reducible refine s_box S (h := ?_)); clear S; intro b w S hcN; clear hcN) | ((with_reducible refine s_alloc S (h := ?_)); clear S; intro b w S hcN; clear hcN) | (with_reducible refine s_load S (h := ?_)) | (with_reducible refine s_loadA S (h := ?_)) | ((with_reducible refine s_store S (h := ?_)); clear S; intro w S)); refine ⟨.inl rfl, ?_⟩; simp only [Act.put, List.setIfInBounds_toArray, List.set_cons_zero, List.set_cons_succ])
                      (refine m_G 14 [] (by kernel_rfl) (by repeat (with_reducible first | exact .zero | apply Nth.succ)) ?_; go_wp2; refine ⟨.inr (Chg.refl _ _), ?_⟩; simp only [Act.put, List.setIfInBounds_toArray, List.set_cons_zero, List.set_cons_succ])
                      refine m_end (by kernel_rfl) ?_
                      exact hJ b w S
                  case cont =>
                  clear hQ
                  intro b2 w S
                  refine (by assumption : ∀ a w, Code.wp _ _ _ a w → _) _ _ ?_
                  have hadd := hid (addF_fit hs hp)
                  go_wp2
                  · refine s_ret2 S (h := ?_)
                    have hp2 : isF (addR s (mulR (at2 ma i k) (at2 mb k j))) = false := by first | assumption | simpa using (by assumption : (!isF (addR s (mulR (at2 ma i k) (at2 mb k j)))) = true)
                    have hf : mulTab ma mb = none := by
                      unfold mulTab
                      rw [hna]
                      refine tab_fail (k := k + 1) ?_ hltk hltj hlt
                      rw [hstep.out, hmul.out, hp]
                      show addF _ _ = none
                      rw [hadd.out, hp2]
                      rfl
                    rw [show mulOut ma mb = (none, 3) from by rw [hout.out, hf]]
                    exact ⟨_, [], rfl, S.nilOwn⟩
                  · have hp2 : isF (addR s (mulR (at2 ma i k) (at2 mb k j))) = true := by first | assumption | simpa using (by assumption : (!isF (addR s (mulR (at2 ma i k) (at2 mb k j)))) = false)
                    obtain ⟨_, _, _, hgA, -, ⟨-, rfl, -⟩, hEo⟩ := own_getS S (.tail _ (.tail _ (.tail _ (.head _)))) i _ (pit_at hpl.out)
                    cases hgA
                    refine m_startS 8 [7] [0, 1, 2, 3, 4, 5, 6] S ?_
                    clear S; intro w hQ S hcD
                    replace hEo := hEo.step hcD
                    (repeat (first | ((with_reducible apply m_P hQ); (case hn => repeat (with_reducible first | exact .zero | apply Nth.succ)); (case hc => kernel_rfl); (case hy => first | exact y_ldE hEo | (apply y_idxS <;> first | rfl | omega) | (apply y_quo <;> first | rfl | assumption | omega) | (apply y_pure <;> first | rfl | (intro w'; go_simp; with_reducible rfl))); (case' h => simp only [Act.put, List.setIfInBounds_toArray, List.set_cons_zero, List.set_cons_succ])) | ((with_reducible apply m_R hQ); (case hn => repeat (with_reducible first | exact .zero | apply Nth.succ)); (case hc => kernel_rfl); (case hy => first | exact y_loadA S | exact y_load S | exact y_ldE hEo | (apply y_idxS <;> first | rfl | omega)); (case' h => simp only [Act.put, List.setIfInBounds_toArray, List.set_cons_zero, List.set_cons_succ]))))
                    refine m_G 7 [] (by kernel_rfl) (by repeat (with_reducible first | exact .zero | apply Nth.succ)) ?_
                    have hjl : j < (r ++ s :: List.replicate (n - (j + 1)) f01).length := by simp; omega
                    go_wp2_with ((with_reducible refine gs 81 ?_); refine s_stW (i := j) (y0 := addR s (mulR (at2 ma i k) (at2 mb k j))) S (.there (.there .here)) rfl (by first | exact At.of | exact At.at_) hjl rfl rfl ?_; clear S; intro w2 S)
                    refine ⟨.inl rfl, ?_⟩; simp only [Act.put, List.setIfInBounds_toArray, List.set_cons_zero, List.set_cons_succ]
                    (refine m_end (by kernel_rfl) ?_; refine (by assumption : ∀ a w, Code.wp _ _ _ a w → _) _ _ ?_)
                    go_wp2
                    go_roundw
                    case rel =>
                      have S := S.drop (.take (.take (.keep (.keep .nil))))
                      rw [set_mid _ _ _ _ _ hr] at S
                      refine ⟨k + 1, _, hltk, by go_num, hid ?_, S⟩
                      rw [hstep.out, hmul.out, hp]
                      show addF _ _ = _
                      rw [hadd.out, hp2]
                      rfl
                    case measure => simp [intOf]; omega
              · obtain rfl : k = n := by omega
                go_wp2
                go_roundw
                case rel =>
                  refine ⟨j + 1, r ++ [s], hltj, by go_num, by simp [hr], hid (rowU_step hrow.out hdot.out), ?_⟩
                  rw [List.append_assoc]
                  exact S
                case measure => simp [intOf]; omega
          · obtain rfl : j = n := by omega
            go_wp2
            go_roundw
            case rel =>
              rw [Nat.sub_self, List.replicate_zero, List.append_nil] at S
              obtain ⟨bs4, S⟩ := S.close (.take (.take .nil)) hpl.out
              rw [set_mid _ _ _ _ _ ht] at S
              refine ⟨i + 1, t ++ [r], bs4, hlt, by go_num, by simp [ht], hid (tabU_step htab.out hrow.out), ?_⟩
              rw [List.append_assoc]
              exact S
            case measure => simp [intOf]; omega
      · obtain rfl : i = n := by omega
        go_wp2
        refine s_ret2 S (h := ?_)
        rw [show mulOut ma mb = (some t, 0) from by rw [hout.out]; unfold mulTab; rw [hna, htab.out]]
        rw [Nat.sub_self, List.replicate_zero, List.append_nil] at S
        exact ⟨_, bs, rfl, S⟩
  · have hout : mulOut ma mb = (none, 1) := by unfold mulOut; rw [hna, if_neg hsq]
    rw [hout]
    go_enter Try.func12, Try.ntmps12
    go_wp2_with (first
      | (go_at_call 59; (first | (with_reducible refine (isFractionMatrix_ok ma n (.slice A n c) _ (S.rd hR)).mono ?_) | (with_reducible refine (isFractionMatrix_ok mb n (.slice A2 mb.length c2) _ (S.rd hR2)).mono ?_)); rintro e w1 ⟨rfl, hc⟩; have S := S.step hc; clear hc))
    all_goals first
      | (have hx : (!sqF n mb) = false := by assumption
         refine absurd ?_ hsq
         rw [Bool.and_eq_true]
         constructor
         · assumption
         · simpa using hx)
      | (refine s_ret2 S (h := ?_)
         exact ⟨_, [], rfl, S.nilOwn⟩)
end Go.Proofs.Ytcfialfgkkjlfaa
