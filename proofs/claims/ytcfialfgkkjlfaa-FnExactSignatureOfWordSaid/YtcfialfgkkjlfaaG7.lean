/- Tables: contract of sum. -/
import Derived.Test.YtcfialfgkkjlfaaG6
set_option linter.unusedSimpArgs false
set_option linter.unusedVariables false
namespace Go.Proofs.Ytcfialfgkkjlfaa
open Go.RowKit Go.Sx Go.Sg
set_option maxRecDepth 100000 in
theorem sum_ok (p d n : Nat) (v : Value) (t : Tb) (p2 : Nat) (v1 : Value) (u : Tb) (w0 : World) (hT : TabR w0 p d n v t) (hO : TOk d n t) (hU : TabR w0 p2 d n v1 u) (hO2 : TOk d n u) :
    Calls Try.prog 185 #[.pointer (some ⟨p, 0, none⟩), .pointer (some ⟨p2, 0, none⟩)] w0 fun e w' => ∃ b v bs, e = .returned (.pointer (some ⟨b, 0, none⟩)) ∧ St [] w0 w' [tabC b d n v (sumT t u).bad, tabV v (sumT t u).vals bs] := by
  have S := St.start w0
  obtain ⟨A, c, rfl, hc1, hc2⟩ := hT.rd.slice
  unfold maxLen at hc2
  have h2 := hT.hv
  have h4 := hU.hv
  have h5 := hU.hb
  obtain ⟨A4, c4, rfl, hc3, hc4⟩ := hU.rd.slice
  unfold maxLen at hc4
  have h3 := hT.hb
  have hd3 := hO.hd
  have hn8 := hO.hn
  have hl := allW_len_le hd3 hn8
  have hlen := hO.len
  have hfr := hO.fr
  have hfr2 := hO2.fr
  have hlu : u.vals.length = t.vals.length := hO2.len.trans hlen.symm
  generalize hzs : List.zipWith addR t.vals u.vals = zs
  have hzl : zs.length = t.vals.length := by rw [← hzs, List.length_zipWith, hlu, Nat.min_self]
  have hza : ∀ k (h : k < t.vals.length) (h' : k < u.vals.length), zs[k]? = some (addR t.vals[k] u.vals[k]) := fun k h h' => by rw [← hzs, List.getElem?_zipWith, List.getElem?_eq_getElem h, List.getElem?_eq_getElem h']
  have hT0 : sumT t u = ⟨chkF zs zs.length, chkB (t.bad || u.bad) zs zs.length⟩ := by rw [← chkL_end]; unfold sumT; rw [hzs]
  rw [hT0]
  have hnv := hid (chkF_new (d := d) (n := n) (zs := zs) (hzl.trans hlen))
  have hfl := hid (chkF_len (zs := zs) (Nat.zero_le _))
  rw [← hlen] at hl
  rw [hzl]
  replace hlen := hid hlen; replace hzl := hid hzl; replace hza := hid hza; replace hfr := hid hfr; replace hfr2 := hid hfr2; replace hlu := hid hlu
  clear hT0 hzs
  go_enter Try.func185, Try.ntmps185
  go_wp2_with (first
    | (go_at_call 167; refine (like_ok _ d n _ t _ (hT.step S.chg) hd3 hn8).mono ?_; rintro e w1 ⟨b2, v2, bs2, rfl, T⟩; rw [hnv.out] at T; have S := S.grow2 T; clear T; obtain ⟨A2, c2, rfl, -, -⟩ := own_slice S (.tail _ (.head _)); rw [hfl.out, hzl.out] at S)
    | ((with_reducible refine gd 14 ?_); refine s_ldE rfl (h3.step S.chg) rfl ?_)
    | ((with_reducible refine gd 19 ?_); refine s_ldE rfl (h5.step S.chg) rfl ?_)
    | ((with_reducible refine gd 26 ?_); refine s_ldE rfl (h2.step S.chg) rfl ?_)
    | ((with_reducible refine s_box S (h := ?_)); clear S; intro b w S hcN; clear hcN) | ((with_reducible refine s_alloc S (h := ?_)); clear S; intro b w S hcN; clear hcN) | (with_reducible refine s_load S (h := ?_)) | (with_reducible refine s_loadA S (h := ?_)) | ((with_reducible refine s_store S (h := ?_)); clear S; intro w S))
  all_goals
    go_loopw [28] (fun i wr => ∃ k : Nat, k ≤ t.vals.length ∧ i = .int .i64 k ∧ St [] w0 wr [tabC b2 d n (.slice A2 t.vals.length c2) (chkB (t.bad || u.bad) zs k), tabV (.slice A2 t.vals.length c2) (chkF zs k) bs2]) (fun i _ => t.vals.length - (intOf i).toNat)
    case atStart =>
      refine ⟨0, Nat.zero_le _, rfl, ?_⟩
      rw [chkB_zero]
      first
        | (rw [show (t.bad || u.bad) = true from by simp [*]]; exact S)
        | (rw [show (t.bad || u.bad) = u.bad from by simp [*]]; exact S)
    case round =>
      clear S
      repeat (rename t.bad = _ => hx; clear hx)
      obtain ⟨k, hk, rfl, S⟩ := hrel
      by_cases hlt : k < t.vals.length
      · have hlt2 : k < u.vals.length := by rw [hlu.out]; exact hlt
        obtain ⟨ad2, _, rfl, -, ⟨_, rfl, _⟩, hE2⟩ := hT.rd.getS k _ (List.getElem?_eq_getElem hlt)
        obtain ⟨ad3, _, rfl, -, ⟨_, rfl, _⟩, hE3⟩ := hU.rd.getS k _ (List.getElem?_eq_getElem hlt2)
        replace hE2 : El _ _ [.int .i64 (t.vals[k]).num, .int .i64 (t.vals[k]).den] := hE2
        replace hE3 : El _ _ [.int .i64 (u.vals[k]).num, .int .i64 (u.vals[k]).den] := hE3
        obtain ⟨g, -, -, rfl, -, -, -⟩ := own_getS S (.tail _ (.head _)) k _ (chkF_at (by rw [hzl.out]; exact hlt))
        have hz := hid (hza.out k hlt hlt2)
        have hfk := hfr.out _ (List.getElem_mem hlt)
        have hfk2 := hfr2.out _ (List.getElem_mem hlt2)
        have hkf := hid (show k < (chkF zs k).length by rw [chkF_len (by rw [hzl.out]; exact hk), hzl.out]; exact hlt)
        generalize t.vals[k] = y at *
        generalize u.vals[k] = x at *
        go_wp2_with (first
          | (with_reducible refine s_idxS (h := ?_))
          | ((with_reducible refine gd 32 ?_); refine s_ldEA rfl (hE2.step S.chg) (by repeat (with_reducible first | exact Sub.done | apply Sub.here | apply Sub.there)) ?_)
          | ((with_reducible refine s_alloc S (h := ?_)); clear S; intro b4 w S hcN; clear hcN)
          | ((with_reducible refine s_box S (h := ?_)); clear S; intro b w S hcN; clear hcN) | ((with_reducible refine s_alloc S (h := ?_)); clear S; intro b w S hcN; clear hcN) | (with_reducible refine s_load S (h := ?_)) | (with_reducible refine s_loadA S (h := ?_)) | ((with_reducible refine s_store S (h := ?_)); clear S; intro w S))
        refine m_startS 20 [17, 19] [0, 1, 2, 4, 5, 6, 7, 8, 9, 10, 11, 12, 13] S ?_
        clear S; intro w hQ S hcD
        (repeat (first | ((with_reducible apply m_P hQ); (case hn => repeat (with_reducible first | exact .zero | apply Nth.succ)); (case hc => kernel_rfl); (case hy => first | exact y_ldE (h4.step S.chg) | exact y_ldEA (hE3.step S.chg) | (apply y_idxS <;> first | rfl | omega) | (apply y_quo <;> first | rfl | assumption | omega) | (apply y_pure <;> first | rfl | (intro w'; go_simp; with_reducible rfl))); (case' h => simp only [Act.put, List.setIfInBounds_toArray, List.set_cons_zero, List.set_cons_succ])) | ((with_reducible apply m_R hQ); (case hn => repeat (with_reducible first | exact .zero | apply Nth.succ)); (case hc => kernel_rfl); (case hy => first | exact y_loadA S | exact y_load S | exact y_ldE (h4.step S.chg) | exact y_ldEA (hE3.step S.chg) | (apply y_idxS <;> first | rfl | omega)); (case' h => simp only [Act.put, List.setIfInBounds_toArray, List.set_cons_zero, List.set_cons_succ]))))
        apply m_join0
        case br =>
          intro hJ
          refine m_G2 3 14 [] [15, 16] (by kernel_rfl) (by repeat (with_reducible first | exact .zero | apply Nth.succ)) (by repeat (with_reducible first | exact .zero | apply Nth.succ)) ?_ ?_
          · go_wp2_with ((first | ((with_reducible refine s_box S (h := ?_)); clear S; intro b w S hcN; clear hcN) | ((with_reducible refine s_alloc S (h := ?_)); clear S; intro b w S hcN; clear hcN) | (with_reducible refine s_load S (h := ?_)) | (with_reducible refine s_loadA S (h := ?_)) | ((with_reducible refine s_store S (h := ?_)); clear S; intro w S)))
            refine ⟨.inr (Chg.refl _ _), ?_⟩; simp only [Act.put, List.setIfInBounds_toArray, List.set_cons_zero, List.set_cons_succ]
            refine m_G 14 [15, 16] (by kernel_rfl) (by repeat (with_reducible first | exact .zero | apply Nth.succ)) ?_
            go_wp2_with (go_at_call 62; refine (plus_ok y x _ hfk hfk2).mono ?_; rintro e w1 ⟨rfl, hcN⟩; have S := S.step hcN)
            refine ⟨.inr hcN, ?_⟩; clear hcN; simp only [Act.put, List.setIfInBounds_toArray, List.set_cons_zero, List.set_cons_succ]
            (repeat (first | ((with_reducible apply m_P hQ); (case hn => repeat (with_reducible first | exact .zero | apply Nth.succ)); (case hc => kernel_rfl); (case hy => first | exact y_ldE (h4.step S.chg) | exact y_ldEA (hE3.step S.chg) | (apply y_idxS <;> first | rfl | omega) | (apply y_quo <;> first | rfl | assumption | omega) | (apply y_pure <;> first | rfl | (intro w'; go_simp; with_reducible rfl))); (case' h => simp only [Act.put, List.setIfInBounds_toArray, List.set_cons_zero, List.set_cons_succ])) | ((with_reducible apply m_R hQ); (case hn => repeat (with_reducible first | exact .zero | apply Nth.succ)); (case hc => kernel_rfl); (case hy => first | exact y_loadA S | exact y_load S | exact y_ldE (h4.step S.chg) | exact y_ldEA (hE3.step S.chg) | (apply y_idxS <;> first | rfl | omega)); (case' h => simp only [Act.put, List.setIfInBounds_toArray, List.set_cons_zero, List.set_cons_succ]))))
            refine m_G 17 [18] (by kernel_rfl) (by repeat (with_reducible first | exact .zero | apply Nth.succ)) ?_
            go_wp2_with (go_at_call 143; refine (check_ok _ d n _ _ (isF (addR y x)) (addR y x) _ _ (S.piece (.keep (.take (.keep .nil))))).mono ?_; rintro e w1 ⟨rfl, T⟩; have S := S.call1 (.keep (.take (.keep .nil))) T; clear T)
            refine ⟨.inl rfl, ?_⟩; simp only [Act.put, List.setIfInBounds_toArray, List.set_cons_zero, List.set_cons_succ]
            (repeat (first | ((with_reducible apply m_P hQ); (case hn => repeat (with_reducible first | exact .zero | apply Nth.succ)); (case hc => kernel_rfl); (case hy => first | exact y_ldE (h4.step S.chg) | exact y_ldEA (hE3.step S.chg) | (apply y_idxS <;> first | rfl | omega) | (apply y_quo <;> first | rfl | assumption | omega) | (apply y_pure <;> first | rfl | (intro w'; go_simp; with_reducible rfl))); (case' h => simp only [Act.put, List.setIfInBounds_toArray, List.set_cons_zero, List.set_cons_succ])) | ((with_reducible apply m_R hQ); (case hn => repeat (with_reducible first | exact .zero | apply Nth.succ)); (case hc => kernel_rfl); (case hy => first | exact y_loadA S | exact y_load S | exact y_ldE (h4.step S.chg) | exact y_ldEA (hE3.step S.chg) | (apply y_idxS <;> first | rfl | omega)); (case' h => simp only [Act.put, List.setIfInBounds_toArray, List.set_cons_zero, List.set_cons_succ]))))
            refine m_G 19 [] (by kernel_rfl) (by repeat (with_reducible first | exact .zero | apply Nth.succ)) ?_
            go_wp2_with ((with_reducible refine gs 51 ?_); refine s_stW (i := k) (y0 := fitV (addR y x)) S (.there (.there .here)) rfl (by first | exact At.of | exact At.at_) hkf.out rfl rfl ?_; clear S; intro w2 S)
            refine ⟨.inl rfl, ?_⟩; simp only [Act.put, List.setIfInBounds_toArray, List.set_cons_zero, List.set_cons_succ]
            refine m_end (by kernel_rfl) ?_
            exact hJ _ S
          · go_wp2_with (go_at_call 62; refine (plus_ok y x _ hfk hfk2).mono ?_; rintro e w1 ⟨rfl, hcN⟩; have S := S.step hcN)
            refine ⟨.inr hcN, ?_⟩; clear hcN; simp only [Act.put, List.setIfInBounds_toArray, List.set_cons_zero, List.set_cons_succ]
            (repeat (first | ((with_reducible apply m_P hQ); (case hn => repeat (with_reducible first | exact .zero | apply Nth.succ)); (case hc => kernel_rfl); (case hy => first | exact y_ldE (h4.step S.chg) | exact y_ldEA (hE3.step S.chg) | (apply y_idxS <;> first | rfl | omega) | (apply y_quo <;> first | rfl | assumption | omega) | (apply y_pure <;> first | rfl | (intro w'; go_simp; with_reducible rfl))); (case' h => simp only [Act.put, List.setIfInBounds_toArray, List.set_cons_zero, List.set_cons_succ])) | ((with_reducible apply m_R hQ); (case hn => repeat (with_reducible first | exact .zero | apply Nth.succ)); (case hc => kernel_rfl); (case hy => first | exact y_loadA S | exact y_load S | exact y_ldE (h4.step S.chg) | exact y_ldEA (hE3.step S.chg) | (apply y_idxS <;> first | rfl | omega)); (case' h => simp only [Act.put, List.setIfInBounds_toArray, List.set_cons_zero, List.set_cons_succ]))))
            refine m_G2 3 17 [] [3, 18] (by kernel_rfl) (by repeat (with_reducible first | exact .zero | apply Nth.succ)) (by repeat (with_reducible first | exact .zero | apply Nth.succ)) ?_ ?_
            · go_wp2_with ((first | ((with_reducible refine s_box S (h := ?_)); clear S; intro b w S hcN; clear hcN) | ((with_reducible refine s_alloc S (h := ?_)); clear S; intro b w S hcN; clear hcN) | (with_reducible refine s_load S (h := ?_)) | (with_reducible refine s_loadA S (h := ?_)) | ((with_reducible refine s_store S (h := ?_)); clear S; intro w S)))
              refine ⟨.inr (Chg.refl _ _), ?_⟩; simp only [Act.put, List.setIfInBounds_toArray, List.set_cons_zero, List.set_cons_succ]
              refine m_G 17 [18] (by kernel_rfl) (by repeat (with_reducible first | exact .zero | apply Nth.succ)) ?_
              go_wp2_with (go_at_call 143; refine (check_ok _ d n _ _ (isF (addR y x)) (addR y x) _ _ (S.piece (.keep (.take (.keep .nil))))).mono ?_; rintro e w1 ⟨rfl, T⟩; have S := S.call1 (.keep (.take (.keep .nil))) T; clear T)
              refine ⟨.inl rfl, ?_⟩; simp only [Act.put, List.setIfInBounds_toArray, List.set_cons_zero, List.set_cons_succ]
              (repeat (first | ((with_reducible apply m_P hQ); (case hn => repeat (with_reducible first | exact .zero | apply Nth.succ)); (case hc => kernel_rfl); (case hy => first | exact y_ldE (h4.step S.chg) | exact y_ldEA (hE3.step S.chg) | (apply y_idxS <;> first | rfl | omega) | (apply y_quo <;> first | rfl | assumption | omega) | (apply y_pure <;> first | rfl | (intro w'; go_simp; with_reducible rfl))); (case' h => simp only [Act.put, List.setIfInBounds_toArray, List.set_cons_zero, List.set_cons_succ])) | ((with_reducible apply m_R hQ); (case hn => repeat (with_reducible first | exact .zero | apply Nth.succ)); (case hc => kernel_rfl); (case hy => first | exact y_loadA S | exact y_load S | exact y_ldE (h4.step S.chg) | exact y_ldEA (hE3.step S.chg) | (apply y_idxS <;> first | rfl | omega)); (case' h => simp only [Act.put, List.setIfInBounds_toArray, List.set_cons_zero, List.set_cons_succ]))))
              refine m_G 19 [] (by kernel_rfl) (by repeat (with_reducible first | exact .zero | apply Nth.succ)) ?_
              go_wp2_with ((with_reducible refine gs 51 ?_); refine s_stW (i := k) (y0 := fitV (addR y x)) S (.there (.there .here)) rfl (by first | exact At.of | exact At.at_) hkf.out rfl rfl ?_; clear S; intro w2 S)
              refine ⟨.inl rfl, ?_⟩; simp only [Act.put, List.setIfInBounds_toArray, List.set_cons_zero, List.set_cons_succ]
              refine m_end (by kernel_rfl) ?_
              exact hJ _ (S.sel (by repeat (first | exact Sel.nil | (apply Sel.cons (by repeat (first | exact Rem.here | apply Rem.there))))))
            · go_wp2_with (go_at_call 143; refine (check_ok _ d n _ _ (isF (addR y x)) (addR y x) _ _ (S.piece (.keep (.take (.keep .nil))))).mono ?_; rintro e w1 ⟨rfl, T⟩; have S := S.call1 (.keep (.take (.keep .nil))) T; clear T)
              refine ⟨.inl rfl, ?_⟩; simp only [Act.put, List.setIfInBounds_toArray, List.set_cons_zero, List.set_cons_succ]
              (repeat (first | ((with_reducible apply m_P hQ); (case hn => repeat (with_reducible first | exact .zero | apply Nth.succ)); (case hc => kernel_rfl); (case hy => first | exact y_ldE (h4.step S.chg) | exact y_ldEA (hE3.step S.chg) | (apply y_idxS <;> first | rfl | omega) | (apply y_quo <;> first | rfl | assumption | omega) | (apply y_pure <;> first | rfl | (intro w'; go_simp; with_reducible rfl))); (case' h => simp only [Act.put, List.setIfInBounds_toArray, List.set_cons_zero, List.set_cons_succ])) | ((with_reducible apply m_R hQ); (case hn => repeat (with_reducible first | exact .zero | apply Nth.succ)); (case hc => kernel_rfl); (case hy => first | exact y_loadA S | exact y_load S | exact y_ldE (h4.step S.chg) | exact y_ldEA (hE3.step S.chg) | (apply y_idxS <;> first | rfl | omega)); (case' h => simp only [Act.put, List.setIfInBounds_toArray, List.set_cons_zero, List.set_cons_succ]))))
              refine m_G 19 [] (by kernel_rfl) (by repeat (with_reducible first | exact .zero | apply Nth.succ)) ?_
              go_wp2_with ((with_reducible refine gs 51 ?_); refine s_stW (i := k) (y0 := fitV (addR y x)) S (.there (.there .here)) rfl (by first | exact At.of | exact At.at_) hkf.out rfl rfl ?_; clear S; intro w2 S)
              refine ⟨.inl rfl, ?_⟩; simp only [Act.put, List.setIfInBounds_toArray, List.set_cons_zero, List.set_cons_succ]
              refine m_end (by kernel_rfl) ?_
              exact hJ _ (S.sel (by repeat (first | exact Sel.nil | (apply Sel.cons (by repeat (first | exact Rem.here | apply Rem.there))))))
        case' cont =>
          clear hQ
          intro w S
          refine (by assumption : ∀ a w, Code.wp _ _ _ a w → _) _ _ ?_
        go_wp2
        go_roundw
        case rel =>
          refine ⟨k + 1, hlt, by go_num, ?_⟩
          rw [chkB_next hz.out, chkF_next hz.out] at S
          exact S.sel (by repeat (first | exact Sel.nil | (apply Sel.cons (by repeat (first | exact Rem.here | apply Rem.there)))))
        case measure => simp [intOf]; omega
      · obtain rfl : k = t.vals.length := by omega
        go_wp2
        refine s_ret1 S (h := ?_)
        exact ⟨_, _, bs2, rfl, S.sel (by repeat (first | exact Sel.nil | (apply Sel.cons (by repeat (first | exact Rem.here | apply Rem.there)))))⟩
end Go.Proofs.Ytcfialfgkkjlfaa
