/- Contracts: MultiplyTables of the reference. -/
import Derived.Test.YtcfialfgkkjlfaaC7
set_option linter.unusedSimpArgs false
set_option linter.unusedVariables false
namespace Go.Proofs.Ytcfialfgkkjlfaa
open Go.RowKit Go.Sx Go.Sg

theorem sqF_iff {m : List (List Frac)} : sqF m.length m = (inB m.length 1 6 && !m.any (badRow m.length)) := by simp [sqF]
theorem badRow_len {n : Int} {r : List Frac} (h : (r.length : Int) ≠ n) : badRow n r = true := by simp [badRow, h]
theorem badRow_at {n : Int} {r : List Frac} {j : Nat} (h : j < r.length) (hf : isF r[j] = false) : badRow n r = true := by
  have : r.all isF = false := List.all_eq_false.2 ⟨_, List.getElem_mem h, by simp [hf]⟩
  simp [badRow, this]
set_option maxRecDepth 100000 in
theorem l08Square_ok (m : List (List Frac)) (v : Value) (w : World) (hR : Rd (sl 84 (sl 76 dFrac)) w m [v]) :
    Calls Try.prog 54 #[v] w fun e w' => e = .returned (.bool (sqF m.length m)) ∧ Chg [] w w' := by
  have S := St.start w
  obtain ⟨A, c, rfl, hc1, hc2⟩ := hR.slice
  unfold maxLen at hc2
  by_cases hin : inB m.length 1 6 = true
  · obtain ⟨h1, h6⟩ := inB_iff.1 hin
    have hq : sqF m.length m = !m.any (badRow m.length) := by rw [sqF_iff, hin]; rfl
    rw [hq]
    go_enter Try.func54, Try.ntmps54
    go_wp2
    go_loopw [3] (fun y wr => ∃ i : Nat, i ≤ m.length ∧ y = .int .i64 i ∧ Hid ((m.take i).any (badRow m.length) = false) ∧ St [] w wr []) (fun i _ => m.length - (intOf i).toNat)
    case atStart => exact ⟨0, Nat.zero_le _, rfl, hid rfl, S⟩
    case round =>
      clear S
      obtain ⟨i, hi, rfl, hp, S⟩ := hrel
      by_cases hlt : i < m.length
      · obtain ⟨ad, cy, rfl, -, hRi, hE⟩ := (S.rd hR).getS i _ (List.getElem?_eq_getElem hlt)
        obtain ⟨v', rfl⟩ := sl_one hRi
        obtain ⟨Ai, ci, rfl, hi1, hi2⟩ := hRi.slice
        unfold maxLen at hi2
        go_wp2_with (first
          | (with_reducible refine s_idxS (h := ?_))
          | ((with_reducible refine gd 22 ?_); refine s_ldE rfl hE rfl ?_))
        · refine s_ret1 S (h := ?_)
          refine ⟨?_, S.chg⟩
          rw [any_at hlt (badRow_len (by simpa using (by assumption : ((m[i].length : Int) != (m.length : Int)) = true)))]
          rfl
        · rename ((m[i].length : Int) != (m.length : Int)) = false => hb
          have hlen : m[i].length = m.length := by simp at hb; omega
          clear hb
          replace hlen := hid hlen
          go_loopw [4] (fun y wr => ∃ j : Nat, j ≤ m.length ∧ y = .int .i64 j ∧ Hid ((m[i].take j).all isF = true) ∧ St [] w wr []) (fun i _ => m.length - (intOf i).toNat)
          case atStart => exact ⟨0, Nat.zero_le _, rfl, hid rfl, S⟩
          case round =>
            clear S
            obtain ⟨j, hj, rfl, hpj, S⟩ := hrel
            by_cases hltj : j < m.length
            · have hltj' : j < m[i].length := by rw [hlen.out]; exact hltj
              obtain ⟨_, _, hA1, -, hRi, hE⟩ := (S.rd hR).getS i _ (List.getElem?_eq_getElem hlt)
              cases hA1
              obtain ⟨v', rfl⟩ := sl_one hRi
              obtain ⟨Ai, ci, rfl, hi1, hi2⟩ := hRi.slice
              obtain ⟨adi, _, rfl, -, ⟨_, rfl, _⟩, hE2⟩ := hRi.getS j _ (List.getElem?_eq_getElem hltj')
              replace hE2 : El _ _ [.int .i64 (m[i][j]).num, .int .i64 (m[i][j]).den] := hE2
              go_wp2_with (first
                | (with_reducible refine s_idxS (h := ?_))
                | ((with_reducible refine gd 36 ?_); refine s_ldE rfl hE rfl ?_)
                | ((with_reducible refine gd 39 ?_); refine s_ldEA rfl hE2 (by repeat (with_reducible first | exact Sub.done | apply Sub.here | apply Sub.there)) ?_)
                | (go_at_call 112; refine (l01IsFrac_ok (m[i][j]).num (m[i][j]).den _).mono ?_; rintro e w1 ⟨rfl, hc⟩; have S := S.step hc; clear hc))
              · refine s_ret1 S (h := ?_)
                refine ⟨?_, S.chg⟩
                rw [any_at hlt (badRow_at hltj' (by simpa using (by assumption : (!isF ⟨(m[i][j]).num, (m[i][j]).den⟩) = true)))]
                rfl
              · go_roundw
                case rel =>
                  have hx : isF m[i][j] = true := by simpa using (by assumption : (!isF ⟨(m[i][j]).num, (m[i][j]).den⟩) = false)
                  refine ⟨j + 1, hltj, by go_num, hid ?_, S⟩
                  rw [take_next hltj', List.all_append, hpj.out]
                  simpa using hx
                case measure => simp [intOf]; omega
            · obtain rfl : j = m.length := by omega
              go_wp2
              go_roundw
              case rel =>
                refine ⟨i + 1, hlt, by go_num, hid (any_next hlt hp.out ?_), S⟩
                have h := hpj.out
                rw [← hlen.out, List.take_length] at h
                simp [badRow, hlen.out, h]
              case measure => simp [intOf]; omega
      · obtain rfl : i = m.length := by omega
        go_wp2
        refine s_ret1 S (h := ?_)
        refine ⟨?_, S.chg⟩
        have h := hp.out
        rw [List.take_length] at h
        rw [h]
        rfl
  · have hq : sqF m.length m = false := by rw [sqF_iff]; simp [hin]
    rw [hq]
    have hin2 : ¬ (1 ≤ (m.length : Int) ∧ (m.length : Int) ≤ 6) := fun h => hin (inB_iff.2 h)
    go_enter Try.func54, Try.ntmps54
    go_wp2
    all_goals first
      | (exfalso; omega)
      | (refine s_ret1 S (h := ?_)
         exact ⟨rfl, S.chg⟩)
theorem sqF_two {ma mb : List (List Frac)} : (sqF ma.length ma && sqF ma.length mb) = (sqF ma.length ma && (sqF mb.length mb && decide (ma.length = mb.length))) := by
  by_cases h : ma.length = mb.length
  · simp [h]
  · have : sqF ma.length mb = false := by
      simp only [sqF, Bool.and_eq_false_iff, decide_eq_false_iff_not]
      right; left; omega
    simp [this, h]
theorem isF_ok' {x : Option Frac} (h : ∀ y, x = some y → isF y = true) : okF (x.getD f00) := by
  cases x with
  | none => show okF f00; simp [okF, f00]
  | some y => exact isF_ok (h y rfl)
set_option maxRecDepth 100000 in
set_option maxHeartbeats 800000 in
theorem specMultiplyTables_ok (ma mb : List (List Frac)) (v1 v2 : Value) (w0 : World) (hR : Rd (sl 84 (sl 76 dFrac)) w0 ma [v1]) (hR2 : Rd (sl 84 (sl 76 dFrac)) w0 mb [v2]) :
    Calls Try.prog 10 #[v1, v2] w0 fun e w' => ∃ v' bs, e = .returned (.tuple #[v', .int .i64 (mulOut ma mb).2]) ∧ St [] w0 w' [own 84 (sl 76 dFrac) v' ((mulOut ma mb).1.getD []) bs] := by
  have S := St.start w0
  obtain ⟨A, c, rfl, hc1, hc2⟩ := hR.slice
  obtain ⟨A2, c2, rfl, hc3, hc4⟩ := hR2.slice
  unfold maxLen at hc2 hc4
  by_cases hsq : (sqF ma.length ma && (sqF mb.length mb && decide (ma.length = mb.length))) = true
  · have hout : mulOut ma mb = match mulTab ma mb with | some t => (some t, 0) | none => (none, 3) := by unfold mulOut; rw [sqF_two, if_pos hsq]; rfl
    rw [Bool.and_eq_true, Bool.and_eq_true, decide_eq_true_eq] at hsq
    obtain ⟨ha, hb, hnb⟩ := hsq
    rw [← hnb] at hR2 hb hc3 ⊢
    generalize hna : ma.length = n at *
    obtain ⟨hn1, hn2, -⟩ := sqF_b ha
    replace hout := hid hout
    obtain ⟨r0, h0, -⟩ := sqF_get ha (show 0 < n by omega)
    obtain ⟨adA, -, rfl, -⟩ := hR.getS 0 _ h0
    obtain ⟨r0, h0, -⟩ := sqF_get hb (show 0 < n by omega)
    obtain ⟨adB, -, rfl, -⟩ := hR2.getS 0 _ h0
    clear h0 r0
    have hsa := l08Square_ok ma (.slice (some adA) n c)
    have hsb := l08Square_ok mb (.slice (some adB) n c2)
    rw [hna, ha] at hsa
    rw [← hnb, hb] at hsb
    replace hnb := hid hnb
    go_enter Try.func10, Try.ntmps10
    go_wp2_with (first
      | (go_at_call 54; (first | (with_reducible refine (hsa _ (S.rd hR)).mono ?_) | (with_reducible refine (hsb _ (S.rd hR2)).mono ?_)); rintro e w1 ⟨rfl, hc⟩; have S := S.step hc; clear hc)
      | ((with_reducible refine gd 31 ?_); refine s_bs0 (d := sl 76 dFrac) S ?_; clear S; intro b w S hcN; clear hcN))
    go_loopw [6, 7] (fun o y wr => ∃ (i : Nat) (t : List (List Frac)) (bs : List Nat) (ov : Value), i ≤ n ∧ ov = o ∧ y = .int .i64 i ∧ t.length = i ∧ Hid (tabU ma mb n i = some t) ∧ St [] w0 wr [own 84 (sl 76 dFrac) ov t bs]) (fun _ y _ => n - (intOf y).toNat)
    case atStart => exact ⟨0, [], _, _, Nat.zero_le _, rfl, rfl, rfl, hid rfl, S⟩
    case round =>
      clear S
      obtain ⟨i, t, bs, ov, hi, rfl, rfl, ht, htab, S⟩ := hrel
      by_cases hlt : i < n
      · go_wp2_with ((with_reducible refine gd 38 ?_); refine s_bs0 (d := dFrac) S ?_; clear S; intro b w S hcN; clear hcN)
        go_loopw [8, 9] (fun o y wr => ∃ (j : Nat) (r : List Frac) (by' : List Nat) (rv : Value), j ≤ n ∧ rv = o ∧ y = .int .i64 j ∧ r.length = j ∧ Hid (rowU ma mb i n j = some r) ∧ St [] w0 wr [own 76 dFrac rv r by', own 84 (sl 76 dFrac) ov t bs]) (fun _ y _ => n - (intOf y).toNat)
        case atStart => exact ⟨0, [], _, _, Nat.zero_le _, rfl, rfl, rfl, hid rfl, S⟩
        case round =>
          clear S
          obtain ⟨j, r, by', rv, hj, rfl, rfl, hr, hrow, S⟩ := hrel
          by_cases hltj : j < n
          · go_wp2_with (first
              | (go_at_call 55; refine (l02One_ok _ _).mono ?_; rintro e w1 ⟨rfl, hc⟩; have S := S.step hc; clear hc)
              | ((with_reducible refine s_box S (h := ?_)); clear S; intro b w S hcN; clear hcN) | ((with_reducible refine s_alloc S (h := ?_)); clear S; intro b w S hcN; clear hcN) | (with_reducible refine s_load S (h := ?_)) | (with_reducible refine s_loadA S (h := ?_)) | ((with_reducible refine s_store S (h := ?_)); clear S; intro w S))
            have hb10 := hid (rfl : b = b)
            generalize b = b10 at *
            clear hb10
            go_loopw [11] (fun y wr => ∃ (k : Nat) (s : Frac), k ≤ n ∧ y = .int .i64 k ∧ Hid (dotU ma mb i j k = some s) ∧ St [] w0 wr [cel b10 [.int .i64 s.num, .int .i64 s.den] 76, own 76 dFrac rv r by', own 84 (sl 76 dFrac) ov t bs]) (fun i _ => n - (intOf i).toNat)
            case atStart => exact ⟨0, f01, Nat.zero_le _, rfl, hid rfl, S⟩
            case round =>
              clear S
              obtain ⟨k, s, hk, rfl, hdot, S⟩ := hrel
              by_cases hltk : k < n
              · obtain ⟨ra, hra, hral, hrae⟩ := sqF_get ha hlt
                obtain ⟨rb, hrb, hrbl, hrbe⟩ := sqF_get hb hltk
                obtain ⟨hxa, hia⟩ := hrae k hltk
                obtain ⟨hxb, hib⟩ := hrbe j hltj
                clear hrae hrbe
                obtain ⟨_, cyA, hA1, -, hRa, hEa⟩ := (S.rd hR).getS i _ hra
                cases hA1
                obtain ⟨Aa, ca, hva, -, -⟩ := (show ∃ A c, cyA = [.slice A ra.length c] ∧ ra.length ≤ c ∧ c ≤ maxLen from by obtain ⟨v, rfl⟩ := sl_one hRa; obtain ⟨A, c, rfl, h1, h2⟩ := hRa.slice; exact ⟨A, c, rfl, h1, h2⟩)
                subst hva
                obtain ⟨adAa, _, rfl, -, ⟨_, rfl, _⟩, hEa2⟩ := hRa.getS k _ hxa
                replace hEa2 : El _ _ [.int .i64 (at2 ma i k).num, .int .i64 (at2 ma i k).den] := hEa2
                obtain ⟨_, cyB, hA1, -, hRb, hEb⟩ := (S.rd hR2).getS k _ hrb
                cases hA1
                obtain ⟨Ab, cb, hvb, -, -⟩ := (show ∃ A c, cyB = [.slice A rb.length c] ∧ rb.length ≤ c ∧ c ≤ maxLen from by obtain ⟨v, rfl⟩ := sl_one hRb; obtain ⟨A, c, rfl, h1, h2⟩ := hRb.slice; exact ⟨A, c, rfl, h1, h2⟩)
                subst hvb
                obtain ⟨adBb, _, rfl, -, ⟨_, rfl, _⟩, hEb2⟩ := hRb.getS j _ hxb
                replace hEb2 : El _ _ [.int .i64 (at2 mb k j).num, .int .i64 (at2 mb k j).den] := hEb2
                have hstep := hid (dotU_step hdot.out)
                have hs := dotU_isF hdot.out
                have hop : okF ((mulF (at2 ma i k) (at2 mb k j)).getD f00) := isF_ok' (fun y hy => fr_isF hy)
                go_wp2
                refine m_startS 21 [19] [0, 1, 2, 3, 4, 5, 6, 7, 8, 9, 10, 11, 12, 13] S ?_
                clear S; intro w hQ S hcD
                replace hEa := hEa.step hcD; replace hEa2 := hEa2.step hcD; replace hEb := hEb.step hcD; replace hEb2 := hEb2.step hcD
                (repeat (first | ((with_reducible apply m_P hQ); (case hn => repeat (with_reducible first | exact .zero | apply Nth.succ)); (case hc => kernel_rfl); (case hy => first | exact y_ldE hEa | exact y_ldEA hEa2 | exact y_ldE hEb | exact y_ldEA hEb2 | (apply y_idxS <;> first | rfl | omega) | (apply y_quo <;> first | rfl | assumption | omega) | (apply y_pure <;> first | rfl | (intro w'; go_simp; with_reducible rfl))); (case' h => simp only [Act.put, List.setIfInBounds_toArray, List.set_cons_zero, List.set_cons_succ])) | ((with_reducible apply m_R hQ); (case hn => repeat (with_reducible first | exact .zero | apply Nth.succ)); (case hc => kernel_rfl); (case hy => first | exact y_loadA S | exact y_load S | exact y_ldE hEa | exact y_ldEA hEa2 | exact y_ldE hEb | exact y_ldEA hEb2 | (apply y_idxS <;> first | rfl | omega)); (case' h => simp only [Act.put, List.setIfInBounds_toArray, List.set_cons_zero, List.set_cons_succ]))))
                apply m_join
                case br =>
                  intro hJ
                  refine m_G2 14 18 [15, 16, 17] [] (by kernel_rfl) (by repeat (with_reducible first | exact .zero | apply Nth.succ)) (by repeat (with_reducible first | exact .zero | apply Nth.succ)) ?_ ?_
                  · go_wp2_with (go_at_call 56; refine (l01TimesFrac_ok (at2 ma i k) (at2 mb k j) _ (isF_ok hia) (isF_ok hib)).mono ?_; rintro e w1 ⟨rfl, hcN⟩; have S := S.step hcN)
                    refine ⟨.inr hcN, ?_⟩; clear hcN; simp only [Act.put, List.setIfInBounds_toArray, List.set_cons_zero, List.set_cons_succ]
                    (repeat (first | ((with_reducible apply m_P hQ); (case hn => repeat (with_reducible first | exact .zero | apply Nth.succ)); (case hc => kernel_rfl); (case hy => first | fail | (apply y_quo <;> first | rfl | assumption | omega) | (apply y_pure <;> first | rfl | (intro w'; go_simp; with_reducible rfl))); (case' h => simp only [Act.put, List.setIfInBounds_toArray, List.set_cons_zero, List.set_cons_succ])) | ((with_reducible apply m_R hQ); (case hn => repeat (with_reducible first | exact .zero | apply Nth.succ)); (case hc => kernel_rfl); (case hy => first | exact y_loadA S | exact y_load S | fail); (case' h => simp only [Act.put, List.setIfInBounds_toArray, List.set_cons_zero, List.set_cons_succ]))))
                    (refine m_G 18 [] (by kernel_rfl) (by repeat (with_reducible first | exact .zero | apply Nth.succ)) ?_; go_wp2_with (first | ((with_reducible refine s_box S (h := ?_)); clear S; intro b w S hcN) | ((with_reducible refine s_alloc S (h := ?_)); clear S; intro b w S hcN) | (with_reducible refine s_load S (h := ?_)) | (with_reducible refine s_loadA S (h := ?_)) | ((with_reducible refine s_store S (h := ?_)); clear S; intro w S)); refine ⟨.inr hcN, ?_⟩; clear hcN; simp only [Act.put, List.setIfInBounds_toArray, List.set_cons_zero, List.set_cons_succ])
                    (refine m_G 19 [] (by kernel_rfl) (by repeat (with_reducible first | exact .zero | apply Nth.succ)) ?_; go_wp2_with (first | ((with_reducible refine s_box S (h := ?_)); clear S; intro b w S hcN; clear hcN) | ((with_reducible refine s_alloc S (h := ?_)); clear S; intro b w S hcN; clear hcN) | (with_reducible refine s_load S (h := ?_)) | (with_reducible refine s_loadA S (h := ?_)) | ((with_reducible refine s_store S (h := ?_)); clear S; intro w S)); refine ⟨.inl rfl, ?_⟩; simp only [Act.put, List.setIfInBounds_toArray, List.set_cons_zero, List.set_cons_succ])
                    (refine m_G 20 [] (by kernel_rfl) (by repeat (with_reducible first | exact .zero | apply Nth.succ)) ?_; go_wp2; refine ⟨.inr (Chg.refl _ _), ?_⟩; simp only [Act.put, List.setIfInBounds_toArray, List.set_cons_zero, List.set_cons_succ])
                    refine m_end (by kernel_rfl) ?_
                    exact hJ b w S
                  · go_wp2_with (first | ((with_reducible refine s_box S (h := ?_)); clear S; intro b w S hcN) | ((with_reducible refine s_alloc S (h := ?_)); clear S; intro b w S hcN) | (with_reducible refine s_load S (h := ?_)) | (with_reducible refine s_loadA S (h := ?_)) | ((with_reducible refine s_store S (h := ?_)); clear S; intro w S))
                    refine ⟨.inr hcN, ?_⟩; clear hcN; simp only [Act.put, List.setIfInBounds_toArray, List.set_cons_zero, List.set_cons_succ]
                    refine m_G 14 [15, 16, 17] (by kernel_rfl) (by repeat (with_reducible first | exact .zero | apply Nth.succ)) ?_
                    go_wp2_with (go_at_call 56; refine (l01TimesFrac_ok (at2 ma i k) (at2 mb k j) _ (isF_ok hia) (isF_ok hib)).mono ?_; rintro e w1 ⟨rfl, hcN⟩; have S := S.step hcN)
                    refine ⟨.inr hcN, ?_⟩; clear hcN; simp only [Act.put, List.setIfInBounds_toArray, List.set_cons_zero, List.set_cons_succ]
                    (repeat (first | ((with_reducible apply m_P hQ); (case hn => repeat (with_reducible first | exact .zero | apply Nth.succ)); (case hc => kernel_rfl); (case hy => first | fail | (apply y_quo <;> first | rfl | assumption | omega) | (apply y_pure <;> first | rfl | (intro w'; go_simp; with_reducible rfl))); (case' h => simp only [Act.put, List.setIfInBounds_toArray, List.set_cons_zero, List.set_cons_succ])) | ((with_reducible apply m_R hQ); (case hn => repeat (with_reducible first | exact .zero | apply Nth.succ)); (case hc => kernel_rfl); (case hy => first | exact y_loadA S | exact y_load S | fail); (case' h => simp only [Act.put, List.setIfInBounds_toArray, List.set_cons_zero, List.set_cons_succ]))))
                    (refine m_G 19 [] (by kernel_rfl) (by repeat (with_reducible first | exact .zero | apply Nth.succ)) ?_; go_wp2_with (first | ((with_reducible refine s_box S (h := ?_)); clear S; intro b w S hcN; clear hcN) | ((with_reducible refine s_alloc S (h := ?_)); clear S; intro b w S hcN; clear hcN) | (with_reducible refine s_load S (h := ?_)) | (with_reducible refine s_loadA S (h := ?_)) | ((with_reducible refine s_store S (h := ?_)); clear S; intro w S)); refine ⟨.inl rfl, ?_⟩; simp only [Act.put, List.setIfInBounds_toArray, List.set_cons_zero, List.set_cons_succ])
                    (refine m_G 20 [] (by kernel_rfl) (by repeat (with_reducible first | exact .zero | apply Nth.succ)) ?_; go_wp2; refine ⟨.inr (Chg.refl _ _), ?_⟩; simp only [Act.put, List.setIfInBounds_toArray, List.set_cons_zero, List.set_cons_succ])
                    refine m_end (by kernel_rfl) ?_
                    exact hJ b w S
                case cont =>
                clear hQ
                intro b1 w S
                refine (by assumption : ∀ a w, Code.wp _ _ _ a w → _) _ _ ?_
                clear hEa hEa2 hEb hEb2
                generalize hmf : mulF (at2 ma i k) (at2 mb k j) = mf at *
                have hpl := l01Plus_ok s (mf.getD f00)
                cases mf with
                | none =>
                  go_wp2_with (first
                    | (go_at_call 57; refine (hpl _ (isF_ok hs) hop).mono ?_; rintro e w1 ⟨rfl, hc⟩; have S := S.step hc; clear hc)
                    | ((with_reducible refine s_box S (h := ?_)); clear S; intro b w S hcN; clear hcN) | ((with_reducible refine s_alloc S (h := ?_)); clear S; intro b w S hcN; clear hcN) | (with_reducible refine s_load S (h := ?_)) | (with_reducible refine s_loadA S (h := ?_)) | ((with_reducible refine s_store S (h := ?_)); clear S; intro w S))
                  refine s_ret2 S (h := ?_)
                  have hf : mulTab ma mb = none := by
                    unfold mulTab
                    rw [hna]
                    refine tab_fail (k := k + 1) ?_ hltk hltj hlt
                    rw [hstep.out]
                    rfl
                  rw [show mulOut ma mb = (none, 3) from by rw [hout.out, hf]]
                  exact ⟨_, [], rfl, S.nilOwn⟩
                | some p =>
                  replace hpl := fun w => hpl w (isF_ok hs) hop
                  replace hstep : Hid (dotU ma mb i j (k + 1) = addF s p) := hstep
                  change ∀ w, Calls _ _ #[_, .agg #[.int .i64 p.num, .int .i64 p.den]] w fun e w' => e = .returned (.tuple #[.agg #[.int .i64 ((addF s p).getD f00).num, .int .i64 ((addF s p).getD f00).den], .bool (addF s p).isSome]) ∧ Chg [] w w' at hpl
                  generalize hax : addF s p = ax at *
                  cases ax with
                  | none =>
                    go_wp2_with (first
                      | (go_at_call 57; refine (hpl _).mono ?_; rintro e w1 ⟨rfl, hc⟩; have S := S.step hc; clear hc)
                      | ((with_reducible refine s_box S (h := ?_)); clear S; intro b w S hcN; clear hcN) | ((with_reducible refine s_alloc S (h := ?_)); clear S; intro b w S hcN; clear hcN) | (with_reducible refine s_load S (h := ?_)) | (with_reducible refine s_loadA S (h := ?_)) | ((with_reducible refine s_store S (h := ?_)); clear S; intro w S))
                    refine s_ret2 S (h := ?_)
                    have hf : mulTab ma mb = none := by
                      unfold mulTab
                      rw [hna]
                      exact tab_fail (k := k + 1) hstep.out hltk hltj hlt
                    rw [show mulOut ma mb = (none, 3) from by rw [hout.out, hf]]
                    exact ⟨_, [], rfl, S.nilOwn⟩
                  | some x =>
                    go_wp2_with (first
                      | (go_at_call 57; refine (hpl _).mono ?_; rintro e w1 ⟨rfl, hc⟩; have S := S.step hc; clear hc)
                      | ((with_reducible refine s_box S (h := ?_)); clear S; intro b w S hcN; clear hcN) | ((with_reducible refine s_alloc S (h := ?_)); clear S; intro b w S hcN; clear hcN) | (with_reducible refine s_load S (h := ?_)) | (with_reducible refine s_loadA S (h := ?_)) | ((with_reducible refine s_store S (h := ?_)); clear S; intro w S))
                    go_roundw
                    case rel =>
                      have S := S.drop (.take (.take (.keep (.keep (.keep .nil)))))
                      exact ⟨k + 1, x, hltk, by go_num, hstep, S⟩
                    case measure => simp [intOf]; omega
              · obtain rfl : k = n := by omega
                go_wp2_with (first
                  | (with_reducible refine s_loadA S (h := ?_))
                  | ((with_reducible refine gd 85 ?_); refine s_bs (cs := encF s) S ?_; clear S; intro b2 w1 S hcN; clear hcN)
                  | ((with_reducible refine gd 86 ?_); refine s_app (d := dFrac) (x0 := s) S rfl (by decide) (by decide) rfl rfl (.take (.keep (.take (.keep .nil)))) (fun _ => ⟨rfl, rfl⟩) (by omega) ?_; clear S; intro A' c' bs' w1 S))
                go_roundw
                case rel =>
                  have S := S.drop (.keep (.take (.keep .nil)))
                  rw [hr] at S
                  exact ⟨j + 1, r ++ [s], bs', _, hltj, rfl, by go_num, by simp [hr], hid (rowU_step hrow.out hdot.out), S⟩
                case measure => simp [intOf]; omega
          · obtain rfl : j = n := by omega
            obtain ⟨A3, c3, rfl, -, -⟩ := own_slice S (.head _)
            go_wp2_with (first
              | ((with_reducible refine gd 89 ?_); refine s_bs (cs := [.slice A3 r.length c3]) S ?_; clear S; intro b2 w1 S hcN; clear hcN)
              | ((with_reducible refine gd 90 ?_); refine s_appN (d := sl 76 dFrac) (x0 := r) S rfl (by decide) (by decide) rfl rfl (.take (.take (.take .nil))) (by omega) ?_; clear S; intro A' c' bs' w1 S))
            go_roundw
            case rel =>
              rw [ht] at S
              exact ⟨i + 1, t ++ [r], bs', _, hlt, rfl, by go_num, by simp [ht], hid (tabU_step htab.out hrow.out), S⟩
            case measure => simp [intOf]; omega
      · obtain rfl : i = n := by omega
        go_wp2
        refine s_ret2 S (h := ?_)
        rw [show mulOut ma mb = (some t, 0) from by rw [hout.out]; unfold mulTab; rw [hna, htab.out]]
        exact ⟨_, bs, rfl, S⟩
  · have hout : mulOut ma mb = (none, 1) := by unfold mulOut; rw [sqF_two, if_neg hsq]
    rw [hout]
    go_enter Try.func10, Try.ntmps10
    go_wp2_with (first
      | (go_at_call 54; (first | (with_reducible refine (l08Square_ok ma (.slice A ma.length c) _ (S.rd hR)).mono ?_) | (with_reducible refine (l08Square_ok mb (.slice A2 mb.length c2) _ (S.rd hR2)).mono ?_)); rintro e w1 ⟨rfl, hc⟩; have S := S.step hc; clear hc)
      | ((with_reducible refine gd 31 ?_); exfalso; refine absurd ?_ hsq))
    rotate_left
    · have hl : ((ma.length : Int) != (mb.length : Int)) = false := by assumption
      have hl2 : ma.length = mb.length := by rw [bne_eq_false_iff_eq] at hl; omega
      rw [Bool.and_eq_true, Bool.and_eq_true, decide_eq_true_eq]
      refine ⟨?_, ?_, hl2⟩ <;> assumption
    all_goals refine s_ret2 S (h := ?_)
    all_goals exact ⟨_, [], rfl, S.nilOwn⟩
end Go.Proofs.Ytcfialfgkkjlfaa
