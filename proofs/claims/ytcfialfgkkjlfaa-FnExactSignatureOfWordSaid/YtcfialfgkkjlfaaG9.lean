/- Tables: contract of times. -/
import Derived.Test.YtcfialfgkkjlfaaG8
set_option linter.unusedSimpArgs false
set_option linter.unusedVariables false
namespace Go.Sg
open Go.Sx
def atT (d : Nat) (t : Tb) (w : ByteArray) : Frac := t.vals.getD (num d w) f01
def cutS (d : Nat) (t u : Tb) (w : ByteArray) (out : Tb) (j : Nat) : Tb :=
  if (atT d t (w.extract 0 j)).num = 0 ∨ (atT d u (w.extract j w.size)).num = 0 then out else addTimesT out (num d w) (atT d t (w.extract 0 j)) (atT d u (w.extract j w.size))
def cutsS (d : Nat) (t u : Tb) (w : ByteArray) (out : Tb) (j : Nat) : Tb := (List.range j).foldl (cutS d t u w) out
def wordsS (d : Nat) (t u : Tb) (ws : List ByteArray) (out : Tb) : Tb := ws.foldl (fun out w => cutsS d t u w out (w.size + 1)) out
def timesT (d n : Nat) (t u : Tb) : Tb := wordsS d t u (allW d n) ⟨(newT d n).vals, t.bad || u.bad⟩
theorem TOk.cutS {d n : Nat} {t u out : Tb} {w : ByteArray} (h : TOk d n out) (j : Nat) : TOk d n (cutS d t u w out j) := by
  unfold Sg.cutS
  split
  · exact h
  · exact h.addTimes _ _ _
theorem cutsS_succ (d : Nat) (t u : Tb) (w : ByteArray) (out : Tb) (j : Nat) : cutsS d t u w out (j + 1) = cutS d t u w (cutsS d t u w out j) j := by
  unfold cutsS
  rw [List.range_succ, List.foldl_append]
  rfl
theorem TOk.cutsS {d n : Nat} {t u out : Tb} {w : ByteArray} (h : TOk d n out) : ∀ j, TOk d n (cutsS d t u w out j)
  | 0 => h
  | j + 1 => by rw [cutsS_succ]; exact (TOk.cutsS h j).cutS j
theorem wordsS_next {d : Nat} {t u : Tb} {ws : List ByteArray} {out : Tb} {k : Nat} (h : k < ws.length) : wordsS d t u (ws.take (k + 1)) out = cutsS d t u ws[k] (wordsS d t u (ws.take k) out) (ws[k].size + 1) := by
  unfold wordsS
  rw [take_next h, List.foldl_append]
  rfl
theorem TOk.wordsS {d n : Nat} {t u : Tb} : ∀ (ws : List ByteArray) {out : Tb}, TOk d n out → TOk d n (wordsS d t u ws out)
  | [], _, h => h
  | w :: ws, _, h => TOk.wordsS ws (h.cutsS _)
theorem TOk.times {d n : Nat} {t u : Tb} (h : TOk d n t) : TOk d n (timesT d n t u) := TOk.wordsS _ ⟨h.hd, h.hn, (TOk.new h.hd h.hn).len, (TOk.new h.hd h.hn).fr⟩
theorem atT_isF {d n : Nat} {t : Tb} (h : TOk d n t) (w : ByteArray) : isF (atT d t w) = true := getD_isF h.fr _
end Go.Sg
namespace Go.Proofs.Ytcfialfgkkjlfaa
open Go.RowKit Go.Sx Go.Sg
theorem at_ok2 (b d n : Nat) (v : Value) (t : Tb) (s : ByteArray) (x : Frac) (w0 : World) (hT : TabR w0 b d n v t) (hO : TOk d n t) (hs : s.size ≤ n) (hw : lets d s = true) (hk : num d s < t.vals.length) (hx : atT d t s = x) :
    Calls Try.prog 169 #[.pointer (some ⟨b, 0, none⟩), .string s] w0 fun e w' => e = .returned (.agg #[.int .i64 x.num, .int .i64 x.den]) ∧ Chg [] w0 w' := by
  subst hx
  exact at_ok b d n v t s w0 hT hO hs hw hk
set_option maxRecDepth 100000 in
set_option maxHeartbeats 4000000 in
theorem tabTimes_ok (p d n : Nat) (v : Value) (t : Tb) (p2 : Nat) (v1 : Value) (u : Tb) (w0 : World) (hT : TabR w0 p d n v t) (hO : TOk d n t) (hU : TabR w0 p2 d n v1 u) (hO2 : TOk d n u) :
    Calls Try.prog 129 #[.pointer (some ⟨p, 0, none⟩), .pointer (some ⟨p2, 0, none⟩)] w0 fun e w' => ∃ b v bs, e = .returned (.pointer (some ⟨b, 0, none⟩)) ∧ St [] w0 w' [tabC b d n v (timesT d n t u).bad, tabV v (timesT d n t u).vals bs] := by
  have S := St.start w0
  have h0 := hT.hd
  have h1 := hT.hn
  have h3 := hT.hb
  have h5 := hU.hb
  have hd3 := hO.hd
  have hn8 := hO.hn
  have hl := allW_len_le hd3 hn8
  have hO0 : TOk d n ⟨(newT d n).vals, t.bad || u.bad⟩ := ⟨hd3, hn8, (TOk.new hd3 hn8).len, (TOk.new hd3 hn8).fr⟩
  have hmem : ∀ w ∈ allW d n, lets d w = true ∧ w.size ≤ n := fun w hw => allW_mem (by omega) hw
  have hlen := hO.len
  have hlen2 := hO2.len
  have hnl : ∀ s : ByteArray, lets d s = true → s.size ≤ n → num d s < (allW d n).length := fun s => num_lt
  have hTT : timesT d n t u = wordsS d t u (allW d n) ⟨(newT d n).vals, t.bad || u.bad⟩ := rfl
  rw [hTT]
  clear hTT
  have hnv := hO0.len
  have hmk : ∀ T : Tb, TOk d n T → T.vals.length = (allW d n).length := fun T h => h.len
  generalize hW : allW d n = W at *
  replace hlen := hid hlen; replace hlen2 := hid hlen2; replace hmem := hid hmem; replace hnl := hid hnl; replace hnv := hid hnv; replace hmk := hid hmk
  go_enter Try.func129, Try.ntmps129
  go_wp2_with (first
    | (go_at_call 167; refine (like_ok _ d n _ t _ (hT.step S.chg) hd3 hn8).mono ?_; rintro e w1 ⟨b2, v2, bs2, rfl, T⟩; have S := S.grow2 T; clear T; obtain ⟨A2, c2, rfl, -, -⟩ := own_slice S (.tail _ (.head _)); rw [hnv.out] at S)
    | ((with_reducible refine gd 17 ?_); refine s_ldE rfl (h3.step S.chg) rfl ?_)
    | ((with_reducible refine gd 22 ?_); refine s_ldE rfl (h5.step S.chg) rfl ?_)
    | ((with_reducible refine s_box S (h := ?_)); clear S; intro b w S hcN; clear hcN) | ((with_reducible refine s_alloc S (h := ?_)); clear S; intro b w S hcN; clear hcN) | (with_reducible refine s_load S (h := ?_)) | (with_reducible refine s_loadA S (h := ?_)) | ((with_reducible refine s_store S (h := ?_)); clear S; intro w S))
  all_goals
    have S : St [] w0 w [tabC b2 d n (.slice A2 W.length c2) (wordsS d t u (W.take 0) ⟨(newT d n).vals, t.bad || u.bad⟩).bad, tabV (.slice A2 W.length c2) (wordsS d t u (W.take 0) ⟨(newT d n).vals, t.bad || u.bad⟩).vals bs2] := by
      first
        | (rw [show (t.bad || u.bad) = true from by simp [*]]; exact S)
        | (rw [show (t.bad || u.bad) = u.bad from by simp [*]]; exact S)
    repeat (rename t.bad = _ => hx; clear hx)
    refine m_startS 11 [] [0, 1, 2, 3, 4, 5, 6, 7, 10] S ?_
    clear S; intro w hQ S hcD
    (repeat (first | ((with_reducible apply m_P hQ); (case hn => repeat (with_reducible first | exact .zero | apply Nth.succ)); (case hc => kernel_rfl); (case hy => first | exact y_ldE (h0.step S.chg) | exact y_ldE (h1.step S.chg) | (apply y_quo <;> first | rfl | assumption | omega) | (apply y_pure <;> first | rfl | (intro w'; go_simp; with_reducible rfl))); (case' h => simp only [Act.put, List.setIfInBounds_toArray, List.set_cons_zero, List.set_cons_succ])) | ((with_reducible apply m_R hQ); (case hn => repeat (with_reducible first | exact .zero | apply Nth.succ)); (case hc => kernel_rfl); (case hy => first | exact y_loadA S | exact y_load S | exact y_ldE (h0.step S.chg) | exact y_ldE (h1.step S.chg)); (case' h => simp only [Act.put, List.setIfInBounds_toArray, List.set_cons_zero, List.set_cons_succ]))))
    refine m_G 8 [9] (by kernel_rfl) (by repeat (with_reducible first | exact .zero | apply Nth.succ)) ?_
    go_wp2_with (go_at_call 141; refine (allWords_ok d n _ hd3 hn8).mono ?_; rintro e w1 ⟨v2, bs3, rfl, T⟩; rw [hW] at T; have hcN := T.chg; have S := S.grow1 T; clear T; obtain ⟨A3, c3, rfl, -, -⟩ := own_slice S (.head _))
    refine ⟨.inr hcN, ?_⟩; clear hcN; simp only [Act.put, List.setIfInBounds_toArray, List.set_cons_zero, List.set_cons_succ]
    (repeat (first | ((with_reducible apply m_P hQ); (case hn => repeat (with_reducible first | exact .zero | apply Nth.succ)); (case hc => kernel_rfl); (case hy => first | exact y_ldE (h0.step S.chg) | exact y_ldE (h1.step S.chg) | (apply y_quo <;> first | rfl | assumption | omega) | (apply y_pure <;> first | rfl | (intro w'; go_simp; with_reducible rfl))); (case' h => simp only [Act.put, List.setIfInBounds_toArray, List.set_cons_zero, List.set_cons_succ])) | ((with_reducible apply m_R hQ); (case hn => repeat (with_reducible first | exact .zero | apply Nth.succ)); (case hc => kernel_rfl); (case hy => first | exact y_loadA S | exact y_load S | exact y_ldE (h0.step S.chg) | exact y_ldE (h1.step S.chg)); (case' h => simp only [Act.put, List.setIfInBounds_toArray, List.set_cons_zero, List.set_cons_succ]))))
    (refine m_end (by kernel_rfl) ?_; refine (by assumption : ∀ a w, Code.wp _ _ _ a w → _) _ _ ?_)
    go_wp2
    go_loopw [36] (fun i wr => ∃ (k : Nat) (T : Tb), k ≤ W.length ∧ i = .int .i64 k ∧ Hid (T = wordsS d t u (W.take k) ⟨(newT d n).vals, t.bad || u.bad⟩) ∧ St [] w0 wr [own 9 dStr (.slice A3 W.length c3) W bs3, tabC b2 d n (.slice A2 W.length c2) T.bad, tabV (.slice A2 W.length c2) T.vals bs2]) (fun i _ => W.length - (intOf i).toNat)
    case atStart => exact ⟨0, _, Nat.zero_le _, rfl, hid rfl, S⟩
    case round =>
      clear S
      obtain ⟨k, T, hk, rfl, hTk, S⟩ := hrel
      by_cases hlt : k < W.length
      · obtain ⟨ad, cy, rfl, -, ⟨_, rfl, _⟩, hE⟩ := S.rd0.getS k _ (List.getElem?_eq_getElem hlt)
        obtain ⟨hw1, hw2⟩ := hmem.out _ (List.getElem_mem hlt)
        have hOT : TOk d n T := by rw [hTk.out]; exact hO0.wordsS _
        have hTn := hid (wordsS_next (d := d) (t := t) (u := u) (out := ⟨(newT d n).vals, t.bad || u.bad⟩) hlt)
        rw [← hTk.out] at hTn
        generalize hs : W[k] = s at *
        replace hs := hid hs
        go_wp2_with (first
          | (with_reducible refine s_idxS (h := ?_))
          | ((with_reducible refine gd 39 ?_); refine s_ldE rfl hE rfl ?_))
        go_loopw [43] (fun i wr => ∃ j : Nat, j ≤ s.size + 1 ∧ i = .int .i64 j ∧ St [] w0 wr [own 9 dStr (.slice (some ad) W.length c3) W bs3, tabC b2 d n (.slice A2 W.length c2) (cutsS d t u s T j).bad, tabV (.slice A2 W.length c2) (cutsS d t u s T j).vals bs2]) (fun i _ => s.size + 1 - (intOf i).toNat)
        case atStart => exact ⟨0, Nat.zero_le _, rfl, S⟩
        case round =>
          clear S hE
          obtain ⟨j, hj, rfl, S⟩ := hrel
          by_cases hltj : j < s.size + 1
          · have hOj := hOT.cutsS (t := t) (u := u) (w := s) j
            have hcs := hid (cutsS_succ d t u s T j)
            have hx1 := atT_isF hO (s.extract 0 j)
            have hx2 := atT_isF hO2 (s.extract j s.size)
            have he1 : lets d (s.extract 0 j) = true := lets_extract hw1 _ _
            have he2 : lets d (s.extract j s.size) = true := lets_extract hw1 _ _
            have hz1 : (s.extract 0 j).size ≤ n := Nat.le_trans (size_extract_le _ _ _) hw2
            have hz2 : (s.extract j s.size).size ≤ n := Nat.le_trans (size_extract_le _ _ _) hw2
            have hk1 := hid (show num d (s.extract 0 j) < t.vals.length by rw [hlen.out]; exact hnl.out _ he1 hz1)
            have hk2 := hid (show num d (s.extract j s.size) < u.vals.length by rw [hlen2.out]; exact hnl.out _ he2 hz2)
            have hk3 := hid (show num d s < (cutsS d t u s T j).vals.length by rw [hmk.out _ hOj]; exact hnl.out _ hw1 hw2)
            replace hz1 := hid hz1; replace hz2 := hid hz2
            generalize hT1 : cutsS d t u s T j = T1 at *
            have hc : Hid (cutsS d t u s T (j + 1) = if (atT d t (s.extract 0 j)).num = 0 ∨ (atT d u (s.extract j s.size)).num = 0 then T1 else addTimesT T1 (num d s) (atT d t (s.extract 0 j)) (atT d u (s.extract j s.size))) := hid (by rw [hcs.out]; rfl)
            clear hcs
            replace hT1 := hid hT1
            generalize hx : atT d t (s.extract 0 j) = x at *
            generalize hy : atT d u (s.extract j s.size) = y at *
            replace hx := hid hx
            replace hy := hid hy
            have hj2 : j ≤ s.size := by omega
            go_wp2
            refine m_startS 14 [12, 13] [0, 1, 2, 3, 5, 6, 7, 8] S ?_
            clear S; intro w hQ S hcD
            (repeat (first | ((with_reducible apply m_P hQ); (case hn => repeat (with_reducible first | exact .zero | apply Nth.succ)); (case hc => kernel_rfl); (case hy => first | exact y_strHn (by kernel_rfl) hj2 | exact y_strLn (by kernel_rfl) hj2 | (apply y_quo <;> first | rfl | assumption | omega) | (apply y_pure <;> first | rfl | (intro w'; go_simp; with_reducible rfl))); (case' h => simp only [Act.put, List.setIfInBounds_toArray, List.set_cons_zero, List.set_cons_succ])) | ((with_reducible apply m_R hQ); (case hn => repeat (with_reducible first | exact .zero | apply Nth.succ)); (case hc => kernel_rfl); (case hy => first | exact y_loadA S | exact y_load S | exact y_strHn (by kernel_rfl) hj2 | exact y_strLn (by kernel_rfl) hj2); (case' h => simp only [Act.put, List.setIfInBounds_toArray, List.set_cons_zero, List.set_cons_succ]))))
            apply m_join2
            case br =>
              intro hJ
              refine m_G3 4 10 11 [] [] [] (by kernel_rfl) (by repeat (with_reducible first | exact .zero | apply Nth.succ)) (by repeat (with_reducible first | exact .zero | apply Nth.succ)) (by repeat (with_reducible first | exact .zero | apply Nth.succ)) ?_ ?_ ?_
              · go_wp2_with (go_at_call 169; refine (at_ok2 _ d n _ t (s.extract 0 j) x _ (hT.step S.chg) hO hz1.out he1 hk1.out hx.out).mono ?_; rintro e w1 ⟨rfl, hcN⟩; have S := S.step hcN)
                refine ⟨.inr hcN, ?_⟩; clear hcN; simp only [Act.put, List.setIfInBounds_toArray, List.set_cons_zero, List.set_cons_succ]
                refine m_G3 9 10 11 [] [] [] (by kernel_rfl) (by repeat (with_reducible first | exact .zero | apply Nth.succ)) (by repeat (with_reducible first | exact .zero | apply Nth.succ)) (by repeat (with_reducible first | exact .zero | apply Nth.succ)) ?_ ?_ ?_
                · go_wp2_with (go_at_call 169; refine (at_ok2 _ d n _ u (s.extract j s.size) y _ (hU.step S.chg) hO2 hz2.out he2 hk2.out hy.out).mono ?_; rintro e w1 ⟨rfl, hcN⟩; have S := S.step hcN)
                  refine ⟨.inr hcN, ?_⟩; clear hcN; simp only [Act.put, List.setIfInBounds_toArray, List.set_cons_zero, List.set_cons_succ]
                  refine m_G2 10 11 [] [] (by kernel_rfl) (by repeat (with_reducible first | exact .zero | apply Nth.succ)) (by repeat (with_reducible first | exact .zero | apply Nth.succ)) ?_ ?_
                  · go_wp2_with ((with_reducible refine s_alloc S (h := ?_)); clear S; intro b9 w S hcN)
                    refine ⟨.inr hcN, ?_⟩; clear hcN; simp only [Act.put, List.setIfInBounds_toArray, List.set_cons_zero, List.set_cons_succ]
                    refine m_G 11 [] (by kernel_rfl) (by repeat (with_reducible first | exact .zero | apply Nth.succ)) ?_
                    go_wp2_with ((with_reducible refine s_alloc S (h := ?_)); clear S; intro b10 w S hcN)
                    refine ⟨.inr hcN, ?_⟩; clear hcN; simp only [Act.put, List.setIfInBounds_toArray, List.set_cons_zero, List.set_cons_succ]
                    refine m_G 12 [] (by kernel_rfl) (by repeat (with_reducible first | exact .zero | apply Nth.succ)) ?_
                    go_wp2_with ((first | ((with_reducible refine s_box S (h := ?_)); clear S; intro b w S hcN; clear hcN) | ((with_reducible refine s_alloc S (h := ?_)); clear S; intro b w S hcN; clear hcN) | (with_reducible refine s_load S (h := ?_)) | (with_reducible refine s_loadA S (h := ?_)) | ((with_reducible refine s_store S (h := ?_)); clear S; intro w S)))
                    refine ⟨.inl rfl, ?_⟩; simp only [Act.put, List.setIfInBounds_toArray, List.set_cons_zero, List.set_cons_succ]
                    refine m_G 13 [] (by kernel_rfl) (by repeat (with_reducible first | exact .zero | apply Nth.succ)) ?_
                    go_wp2_with ((first | ((with_reducible refine s_box S (h := ?_)); clear S; intro b w S hcN; clear hcN) | ((with_reducible refine s_alloc S (h := ?_)); clear S; intro b w S hcN; clear hcN) | (with_reducible refine s_load S (h := ?_)) | (with_reducible refine s_loadA S (h := ?_)) | ((with_reducible refine s_store S (h := ?_)); clear S; intro w S)))
                    refine ⟨.inl rfl, ?_⟩; simp only [Act.put, List.setIfInBounds_toArray, List.set_cons_zero, List.set_cons_succ]
                    refine m_end (by kernel_rfl) ?_
                    exact hJ b9 b10 _ S
                  · go_wp2_with ((with_reducible refine s_alloc S (h := ?_)); clear S; intro b10 w S hcN)
                    refine ⟨.inr hcN, ?_⟩; clear hcN; simp only [Act.put, List.setIfInBounds_toArray, List.set_cons_zero, List.set_cons_succ]
                    refine m_G 10 [] (by kernel_rfl) (by repeat (with_reducible first | exact .zero | apply Nth.succ)) ?_
                    go_wp2_with ((with_reducible refine s_alloc S (h := ?_)); clear S; intro b9 w S hcN)
                    refine ⟨.inr hcN, ?_⟩; clear hcN; simp only [Act.put, List.setIfInBounds_toArray, List.set_cons_zero, List.set_cons_succ]
                    refine m_G 12 [] (by kernel_rfl) (by repeat (with_reducible first | exact .zero | apply Nth.succ)) ?_
                    go_wp2_with ((first | ((with_reducible refine s_box S (h := ?_)); clear S; intro b w S hcN; clear hcN) | ((with_reducible refine s_alloc S (h := ?_)); clear S; intro b w S hcN; clear hcN) | (with_reducible refine s_load S (h := ?_)) | (with_reducible refine s_loadA S (h := ?_)) | ((with_reducible refine s_store S (h := ?_)); clear S; intro w S)))
                    refine ⟨.inl rfl, ?_⟩; simp only [Act.put, List.setIfInBounds_toArray, List.set_cons_zero, List.set_cons_succ]
                    refine m_G 13 [] (by kernel_rfl) (by repeat (with_reducible first | exact .zero | apply Nth.succ)) ?_
                    go_wp2_with ((first | ((with_reducible refine s_box S (h := ?_)); clear S; intro b w S hcN; clear hcN) | ((with_reducible refine s_alloc S (h := ?_)); clear S; intro b w S hcN; clear hcN) | (with_reducible refine s_load S (h := ?_)) | (with_reducible refine s_loadA S (h := ?_)) | ((with_reducible refine s_store S (h := ?_)); clear S; intro w S)))
                    refine ⟨.inl rfl, ?_⟩; simp only [Act.put, List.setIfInBounds_toArray, List.set_cons_zero, List.set_cons_succ]
                    refine m_end (by kernel_rfl) ?_
                    exact hJ b9 b10 _ (S.sel (by repeat (first | exact Sel.nil | (apply Sel.cons (by repeat (first | exact Rem.here | apply Rem.there))))))
                · go_wp2_with ((with_reducible refine s_alloc S (h := ?_)); clear S; intro b9 w S hcN)
                  refine ⟨.inr hcN, ?_⟩; clear hcN; simp only [Act.put, List.setIfInBounds_toArray, List.set_cons_zero, List.set_cons_succ]
                  refine m_G2 9 11 [] [] (by kernel_rfl) (by repeat (with_reducible first | exact .zero | apply Nth.succ)) (by repeat (with_reducible first | exact .zero | apply Nth.succ)) ?_ ?_
                  · go_wp2_with (go_at_call 169; refine (at_ok2 _ d n _ u (s.extract j s.size) y _ (hU.step S.chg) hO2 hz2.out he2 hk2.out hy.out).mono ?_; rintro e w1 ⟨rfl, hcN⟩; have S := S.step hcN)
                    refine ⟨.inr hcN, ?_⟩; clear hcN; simp only [Act.put, List.setIfInBounds_toArray, List.set_cons_zero, List.set_cons_succ]
                    refine m_G 11 [] (by kernel_rfl) (by repeat (with_reducible first | exact .zero | apply Nth.succ)) ?_
                    go_wp2_with ((with_reducible refine s_alloc S (h := ?_)); clear S; intro b10 w S hcN)
                    refine ⟨.inr hcN, ?_⟩; clear hcN; simp only [Act.put, List.setIfInBounds_toArray, List.set_cons_zero, List.set_cons_succ]
                    refine m_G 12 [] (by kernel_rfl) (by repeat (with_reducible first | exact .zero | apply Nth.succ)) ?_
                    go_wp2_with ((first | ((with_reducible refine s_box S (h := ?_)); clear S; intro b w S hcN; clear hcN) | ((with_reducible refine s_alloc S (h := ?_)); clear S; intro b w S hcN; clear hcN) | (with_reducible refine s_load S (h := ?_)) | (with_reducible refine s_loadA S (h := ?_)) | ((with_reducible refine s_store S (h := ?_)); clear S; intro w S)))
                    refine ⟨.inl rfl, ?_⟩; simp only [Act.put, List.setIfInBounds_toArray, List.set_cons_zero, List.set_cons_succ]
                    refine m_G 13 [] (by kernel_rfl) (by repeat (with_reducible first | exact .zero | apply Nth.succ)) ?_
                    go_wp2_with ((first | ((with_reducible refine s_box S (h := ?_)); clear S; intro b w S hcN; clear hcN) | ((with_reducible refine s_alloc S (h := ?_)); clear S; intro b w S hcN; clear hcN) | (with_reducible refine s_load S (h := ?_)) | (with_reducible refine s_loadA S (h := ?_)) | ((with_reducible refine s_store S (h := ?_)); clear S; intro w S)))
                    refine ⟨.inl rfl, ?_⟩; simp only [Act.put, List.setIfInBounds_toArray, List.set_cons_zero, List.set_cons_succ]
                    refine m_end (by kernel_rfl) ?_
                    exact hJ b9 b10 _ (S.sel (by repeat (first | exact Sel.nil | (apply Sel.cons (by repeat (first | exact Rem.here | apply Rem.there))))))
                  · go_wp2_with ((with_reducible refine s_alloc S (h := ?_)); clear S; intro b10 w S hcN)
                    refine ⟨.inr hcN, ?_⟩; clear hcN; simp only [Act.put, List.setIfInBounds_toArray, List.set_cons_zero, List.set_cons_succ]
                    refine m_G 9 [] (by kernel_rfl) (by repeat (with_reducible first | exact .zero | apply Nth.succ)) ?_
                    go_wp2_with (go_at_call 169; refine (at_ok2 _ d n _ u (s.extract j s.size) y _ (hU.step S.chg) hO2 hz2.out he2 hk2.out hy.out).mono ?_; rintro e w1 ⟨rfl, hcN⟩; have S := S.step hcN)
                    refine ⟨.inr hcN, ?_⟩; clear hcN; simp only [Act.put, List.setIfInBounds_toArray, List.set_cons_zero, List.set_cons_succ]
                    refine m_G 12 [] (by kernel_rfl) (by repeat (with_reducible first | exact .zero | apply Nth.succ)) ?_
                    go_wp2_with ((first | ((with_reducible refine s_box S (h := ?_)); clear S; intro b w S hcN; clear hcN) | ((with_reducible refine s_alloc S (h := ?_)); clear S; intro b w S hcN; clear hcN) | (with_reducible refine s_load S (h := ?_)) | (with_reducible refine s_loadA S (h := ?_)) | ((with_reducible refine s_store S (h := ?_)); clear S; intro w S)))
                    refine ⟨.inl rfl, ?_⟩; simp only [Act.put, List.setIfInBounds_toArray, List.set_cons_zero, List.set_cons_succ]
                    refine m_G 13 [] (by kernel_rfl) (by repeat (with_reducible first | exact .zero | apply Nth.succ)) ?_
                    go_wp2_with ((first | ((with_reducible refine s_box S (h := ?_)); clear S; intro b w S hcN; clear hcN) | ((with_reducible refine s_alloc S (h := ?_)); clear S; intro b w S hcN; clear hcN) | (with_reducible refine s_load S (h := ?_)) | (with_reducible refine s_loadA S (h := ?_)) | ((with_reducible refine s_store S (h := ?_)); clear S; intro w S)))
                    refine ⟨.inl rfl, ?_⟩; simp only [Act.put, List.setIfInBounds_toArray, List.set_cons_zero, List.set_cons_succ]
                    refine m_end (by kernel_rfl) ?_
                    exact hJ b9 b10 _ (S.sel (by repeat (first | exact Sel.nil | (apply Sel.cons (by repeat (first | exact Rem.here | apply Rem.there))))))
                · go_wp2_with ((with_reducible refine s_alloc S (h := ?_)); clear S; intro b10 w S hcN)
                  refine ⟨.inr hcN, ?_⟩; clear hcN; simp only [Act.put, List.setIfInBounds_toArray, List.set_cons_zero, List.set_cons_succ]
                  refine m_G2 9 10 [] [] (by kernel_rfl) (by repeat (with_reducible first | exact .zero | apply Nth.succ)) (by repeat (with_reducible first | exact .zero | apply Nth.succ)) ?_ ?_
                  · go_wp2_with (go_at_call 169; refine (at_ok2 _ d n _ u (s.extract j s.size) y _ (hU.step S.chg) hO2 hz2.out he2 hk2.out hy.out).mono ?_; rintro e w1 ⟨rfl, hcN⟩; have S := S.step hcN)
                    refine ⟨.inr hcN, ?_⟩; clear hcN; simp only [Act.put, List.setIfInBounds_toArray, List.set_cons_zero, List.set_cons_succ]
                    refine m_G 10 [] (by kernel_rfl) (by repeat (with_reducible first | exact .zero | apply Nth.succ)) ?_
                    go_wp2_with ((with_reducible refine s_alloc S (h := ?_)); clear S; intro b9 w S hcN)
                    refine ⟨.inr hcN, ?_⟩; clear hcN; simp only [Act.put, List.setIfInBounds_toArray, List.set_cons_zero, List.set_cons_succ]
                    refine m_G 12 [] (by kernel_rfl) (by repeat (with_reducible first | exact .zero | apply Nth.succ)) ?_
                    go_wp2_with ((first | ((with_reducible refine s_box S (h := ?_)); clear S; intro b w S hcN; clear hcN) | ((with_reducible refine s_alloc S (h := ?_)); clear S; intro b w S hcN; clear hcN) | (with_reducible refine s_load S (h := ?_)) | (with_reducible refine s_loadA S (h := ?_)) | ((with_reducible refine s_store S (h := ?_)); clear S; intro w S)))
                    refine ⟨.inl rfl, ?_⟩; simp only [Act.put, List.setIfInBounds_toArray, List.set_cons_zero, List.set_cons_succ]
                    refine m_G 13 [] (by kernel_rfl) (by repeat (with_reducible first | exact .zero | apply Nth.succ)) ?_
                    go_wp2_with ((first | ((with_reducible refine s_box S (h := ?_)); clear S; intro b w S hcN; clear hcN) | ((with_reducible refine s_alloc S (h := ?_)); clear S; intro b w S hcN; clear hcN) | (with_reducible refine s_load S (h := ?_)) | (with_reducible refine s_loadA S (h := ?_)) | ((with_reducible refine s_store S (h := ?_)); clear S; intro w S)))
                    refine ⟨.inl rfl, ?_⟩; simp only [Act.put, List.setIfInBounds_toArray, List.set_cons_zero, List.set_cons_succ]
                    refine m_end (by kernel_rfl) ?_
                    exact hJ b9 b10 _ (S.sel (by repeat (first | exact Sel.nil | (apply Sel.cons (by repeat (first | exact Rem.here | apply Rem.there))))))
                  · go_wp2_with ((with_reducible refine s_alloc S (h := ?_)); clear S; intro b9 w S hcN)
                    refine ⟨.inr hcN, ?_⟩; clear hcN; simp only [Act.put, List.setIfInBounds_toArray, List.set_cons_zero, List.set_cons_succ]
                    refine m_G 9 [] (by kernel_rfl) (by repeat (with_reducible first | exact .zero | apply Nth.succ)) ?_
                    go_wp2_with (go_at_call 169; refine (at_ok2 _ d n _ u (s.extract j s.size) y _ (hU.step S.chg) hO2 hz2.out he2 hk2.out hy.out).mono ?_; rintro e w1 ⟨rfl, hcN⟩; have S := S.step hcN)
                    refine ⟨.inr hcN, ?_⟩; clear hcN; simp only [Act.put, List.setIfInBounds_toArray, List.set_cons_zero, List.set_cons_succ]
                    refine m_G 12 [] (by kernel_rfl) (by repeat (with_reducible first | exact .zero | apply Nth.succ)) ?_
                    go_wp2_with ((first | ((with_reducible refine s_box S (h := ?_)); clear S; intro b w S hcN; clear hcN) | ((with_reducible refine s_alloc S (h := ?_)); clear S; intro b w S hcN; clear hcN) | (with_reducible refine s_load S (h := ?_)) | (with_reducible refine s_loadA S (h := ?_)) | ((with_reducible refine s_store S (h := ?_)); clear S; intro w S)))
                    refine ⟨.inl rfl, ?_⟩; simp only [Act.put, List.setIfInBounds_toArray, List.set_cons_zero, List.set_cons_succ]
                    refine m_G 13 [] (by kernel_rfl) (by repeat (with_reducible first | exact .zero | apply Nth.succ)) ?_
                    go_wp2_with ((first | ((with_reducible refine s_box S (h := ?_)); clear S; intro b w S hcN; clear hcN) | ((with_reducible refine s_alloc S (h := ?_)); clear S; intro b w S hcN; clear hcN) | (with_reducible refine s_load S (h := ?_)) | (with_reducible refine s_loadA S (h := ?_)) | ((with_reducible refine s_store S (h := ?_)); clear S; intro w S)))
                    refine ⟨.inl rfl, ?_⟩; simp only [Act.put, List.setIfInBounds_toArray, List.set_cons_zero, List.set_cons_succ]
                    refine m_end (by kernel_rfl) ?_
                    exact hJ b9 b10 _ (S.sel (by repeat (first | exact Sel.nil | (apply Sel.cons (by repeat (first | exact Rem.here | apply Rem.there))))))
              · go_wp2_with ((with_reducible refine s_alloc S (h := ?_)); clear S; intro b9 w S hcN)
                refine ⟨.inr hcN, ?_⟩; clear hcN; simp only [Act.put, List.setIfInBounds_toArray, List.set_cons_zero, List.set_cons_succ]
                refine m_G2 4 11 [] [] (by kernel_rfl) (by repeat (with_reducible first | exact .zero | apply Nth.succ)) (by repeat (with_reducible first | exact .zero | apply Nth.succ)) ?_ ?_
                · go_wp2_with (go_at_call 169; refine (at_ok2 _ d n _ t (s.extract 0 j) x _ (hT.step S.chg) hO hz1.out he1 hk1.out hx.out).mono ?_; rintro e w1 ⟨rfl, hcN⟩; have S := S.step hcN)
                  refine ⟨.inr hcN, ?_⟩; clear hcN; simp only [Act.put, List.setIfInBounds_toArray, List.set_cons_zero, List.set_cons_succ]
                  refine m_G2 9 11 [] [] (by kernel_rfl) (by repeat (with_reducible first | exact .zero | apply Nth.succ)) (by repeat (with_reducible first | exact .zero | apply Nth.succ)) ?_ ?_
                  · go_wp2_with (go_at_call 169; refine (at_ok2 _ d n _ u (s.extract j s.size) y _ (hU.step S.chg) hO2 hz2.out he2 hk2.out hy.out).mono ?_; rintro e w1 ⟨rfl, hcN⟩; have S := S.step hcN)
                    refine ⟨.inr hcN, ?_⟩; clear hcN; simp only [Act.put, List.setIfInBounds_toArray, List.set_cons_zero, List.set_cons_succ]
                    refine m_G 11 [] (by kernel_rfl) (by repeat (with_reducible first | exact .zero | apply Nth.succ)) ?_
                    go_wp2_with ((with_reducible refine s_alloc S (h := ?_)); clear S; intro b10 w S hcN)
                    refine ⟨.inr hcN, ?_⟩; clear hcN; simp only [Act.put, List.setIfInBounds_toArray, List.set_cons_zero, List.set_cons_succ]
                    refine m_G 12 [] (by kernel_rfl) (by repeat (with_reducible first | exact .zero | apply Nth.succ)) ?_
                    go_wp2_with ((first | ((with_reducible refine s_box S (h := ?_)); clear S; intro b w S hcN; clear hcN) | ((with_reducible refine s_alloc S (h := ?_)); clear S; intro b w S hcN; clear hcN) | (with_reducible refine s_load S (h := ?_)) | (with_reducible refine s_loadA S (h := ?_)) | ((with_reducible refine s_store S (h := ?_)); clear S; intro w S)))
                    refine ⟨.inl rfl, ?_⟩; simp only [Act.put, List.setIfInBounds_toArray, List.set_cons_zero, List.set_cons_succ]
                    refine m_G 13 [] (by kernel_rfl) (by repeat (with_reducible first | exact .zero | apply Nth.succ)) ?_
                    go_wp2_with ((first | ((with_reducible refine s_box S (h := ?_)); clear S; intro b w S hcN; clear hcN) | ((with_reducible refine s_alloc S (h := ?_)); clear S; intro b w S hcN; clear hcN) | (with_reducible refine s_load S (h := ?_)) | (with_reducible refine s_loadA S (h := ?_)) | ((with_reducible refine s_store S (h := ?_)); clear S; intro w S)))
                    refine ⟨.inl rfl, ?_⟩; simp only [Act.put, List.setIfInBounds_toArray, List.set_cons_zero, List.set_cons_succ]
                    refine m_end (by kernel_rfl) ?_
                    exact hJ b9 b10 _ (S.sel (by repeat (first | exact Sel.nil | (apply Sel.cons (by repeat (first | exact Rem.here | apply Rem.there))))))
                  · go_wp2_with ((with_reducible refine s_alloc S (h := ?_)); clear S; intro b10 w S hcN)
                    refine ⟨.inr hcN, ?_⟩; clear hcN; simp only [Act.put, List.setIfInBounds_toArray, List.set_cons_zero, List.set_cons_succ]
                    refine m_G 9 [] (by kernel_rfl) (by repeat (with_reducible first | exact .zero | apply Nth.succ)) ?_
                    go_wp2_with (go_at_call 169; refine (at_ok2 _ d n _ u (s.extract j s.size) y _ (hU.step S.chg) hO2 hz2.out he2 hk2.out hy.out).mono ?_; rintro e w1 ⟨rfl, hcN⟩; have S := S.step hcN)
                    refine ⟨.inr hcN, ?_⟩; clear hcN; simp only [Act.put, List.setIfInBounds_toArray, List.set_cons_zero, List.set_cons_succ]
                    refine m_G 12 [] (by kernel_rfl) (by repeat (with_reducible first | exact .zero | apply Nth.succ)) ?_
                    go_wp2_with ((first | ((with_reducible refine s_box S (h := ?_)); clear S; intro b w S hcN; clear hcN) | ((with_reducible refine s_alloc S (h := ?_)); clear S; intro b w S hcN; clear hcN) | (with_reducible refine s_load S (h := ?_)) | (with_reducible refine s_loadA S (h := ?_)) | ((with_reducible refine s_store S (h := ?_)); clear S; intro w S)))
                    refine ⟨.inl rfl, ?_⟩; simp only [Act.put, List.setIfInBounds_toArray, List.set_cons_zero, List.set_cons_succ]
                    refine m_G 13 [] (by kernel_rfl) (by repeat (with_reducible first | exact .zero | apply Nth.succ)) ?_
                    go_wp2_with ((first | ((with_reducible refine s_box S (h := ?_)); clear S; intro b w S hcN; clear hcN) | ((with_reducible refine s_alloc S (h := ?_)); clear S; intro b w S hcN; clear hcN) | (with_reducible refine s_load S (h := ?_)) | (with_reducible refine s_loadA S (h := ?_)) | ((with_reducible refine s_store S (h := ?_)); clear S; intro w S)))
                    refine ⟨.inl rfl, ?_⟩; simp only [Act.put, List.setIfInBounds_toArray, List.set_cons_zero, List.set_cons_succ]
                    refine m_end (by kernel_rfl) ?_
                    exact hJ b9 b10 _ (S.sel (by repeat (first | exact Sel.nil | (apply Sel.cons (by repeat (first | exact Rem.here | apply Rem.there))))))
                · go_wp2_with ((with_reducible refine s_alloc S (h := ?_)); clear S; intro b10 w S hcN)
                  refine ⟨.inr hcN, ?_⟩; clear hcN; simp only [Act.put, List.setIfInBounds_toArray, List.set_cons_zero, List.set_cons_succ]
                  refine m_G 4 [] (by kernel_rfl) (by repeat (with_reducible first | exact .zero | apply Nth.succ)) ?_
                  go_wp2_with (go_at_call 169; refine (at_ok2 _ d n _ t (s.extract 0 j) x _ (hT.step S.chg) hO hz1.out he1 hk1.out hx.out).mono ?_; rintro e w1 ⟨rfl, hcN⟩; have S := S.step hcN)
                  refine ⟨.inr hcN, ?_⟩; clear hcN; simp only [Act.put, List.setIfInBounds_toArray, List.set_cons_zero, List.set_cons_succ]
                  refine m_G 9 [] (by kernel_rfl) (by repeat (with_reducible first | exact .zero | apply Nth.succ)) ?_
                  go_wp2_with (go_at_call 169; refine (at_ok2 _ d n _ u (s.extract j s.size) y _ (hU.step S.chg) hO2 hz2.out he2 hk2.out hy.out).mono ?_; rintro e w1 ⟨rfl, hcN⟩; have S := S.step hcN)
                  refine ⟨.inr hcN, ?_⟩; clear hcN; simp only [Act.put, List.setIfInBounds_toArray, List.set_cons_zero, List.set_cons_succ]
                  refine m_G 12 [] (by kernel_rfl) (by repeat (with_reducible first | exact .zero | apply Nth.succ)) ?_
                  go_wp2_with ((first | ((with_reducible refine s_box S (h := ?_)); clear S; intro b w S hcN; clear hcN) | ((with_reducible refine s_alloc S (h := ?_)); clear S; intro b w S hcN; clear hcN) | (with_reducible refine s_load S (h := ?_)) | (with_reducible refine s_loadA S (h := ?_)) | ((with_reducible refine s_store S (h := ?_)); clear S; intro w S)))
                  refine ⟨.inl rfl, ?_⟩; simp only [Act.put, List.setIfInBounds_toArray, List.set_cons_zero, List.set_cons_succ]
                  refine m_G 13 [] (by kernel_rfl) (by repeat (with_reducible first | exact .zero | apply Nth.succ)) ?_
                  go_wp2_with ((first | ((with_reducible refine s_box S (h := ?_)); clear S; intro b w S hcN; clear hcN) | ((with_reducible refine s_alloc S (h := ?_)); clear S; intro b w S hcN; clear hcN) | (with_reducible refine s_load S (h := ?_)) | (with_reducible refine s_loadA S (h := ?_)) | ((with_reducible refine s_store S (h := ?_)); clear S; intro w S)))
                  refine ⟨.inl rfl, ?_⟩; simp only [Act.put, List.setIfInBounds_toArray, List.set_cons_zero, List.set_cons_succ]
                  refine m_end (by kernel_rfl) ?_
                  exact hJ b9 b10 _ (S.sel (by repeat (first | exact Sel.nil | (apply Sel.cons (by repeat (first | exact Rem.here | apply Rem.there))))))
              · go_wp2_with ((with_reducible refine s_alloc S (h := ?_)); clear S; intro b10 w S hcN)
                refine ⟨.inr hcN, ?_⟩; clear hcN; simp only [Act.put, List.setIfInBounds_toArray, List.set_cons_zero, List.set_cons_succ]
                refine m_G2 4 10 [] [] (by kernel_rfl) (by repeat (with_reducible first | exact .zero | apply Nth.succ)) (by repeat (with_reducible first | exact .zero | apply Nth.succ)) ?_ ?_
                · go_wp2_with (go_at_call 169; refine (at_ok2 _ d n _ t (s.extract 0 j) x _ (hT.step S.chg) hO hz1.out he1 hk1.out hx.out).mono ?_; rintro e w1 ⟨rfl, hcN⟩; have S := S.step hcN)
                  refine ⟨.inr hcN, ?_⟩; clear hcN; simp only [Act.put, List.setIfInBounds_toArray, List.set_cons_zero, List.set_cons_succ]
                  refine m_G2 9 10 [] [] (by kernel_rfl) (by repeat (with_reducible first | exact .zero | apply Nth.succ)) (by repeat (with_reducible first | exact .zero | apply Nth.succ)) ?_ ?_
                  · go_wp2_with (go_at_call 169; refine (at_ok2 _ d n _ u (s.extract j s.size) y _ (hU.step S.chg) hO2 hz2.out he2 hk2.out hy.out).mono ?_; rintro e w1 ⟨rfl, hcN⟩; have S := S.step hcN)
                    refine ⟨.inr hcN, ?_⟩; clear hcN; simp only [Act.put, List.setIfInBounds_toArray, List.set_cons_zero, List.set_cons_succ]
                    refine m_G 10 [] (by kernel_rfl) (by repeat (with_reducible first | exact .zero | apply Nth.succ)) ?_
                    go_wp2_with ((with_reducible refine s_alloc S (h := ?_)); clear S; intro b9 w S hcN)
                    refine ⟨.inr hcN, ?_⟩; clear hcN; simp only [Act.put, List.setIfInBounds_toArray, List.set_cons_zero, List.set_cons_succ]
                    refine m_G 12 [] (by kernel_rfl) (by repeat (with_reducible first | exact .zero | apply Nth.succ)) ?_
                    go_wp2_with ((first | ((with_reducible refine s_box S (h := ?_)); clear S; intro b w S hcN; clear hcN) | ((with_reducible refine s_alloc S (h := ?_)); clear S; intro b w S hcN; clear hcN) | (with_reducible refine s_load S (h := ?_)) | (with_reducible refine s_loadA S (h := ?_)) | ((with_reducible refine s_store S (h := ?_)); clear S; intro w S)))
                    refine ⟨.inl rfl, ?_⟩; simp only [Act.put, List.setIfInBounds_toArray, List.set_cons_zero, List.set_cons_succ]
                    refine m_G 13 [] (by kernel_rfl) (by repeat (with_reducible first | exact .zero | apply Nth.succ)) ?_
                    go_wp2_with ((first | ((with_reducible refine s_box S (h := ?_)); clear S; intro b w S hcN; clear hcN) | ((with_reducible refine s_alloc S (h := ?_)); clear S; intro b w S hcN; clear hcN) | (with_reducible refine s_load S (h := ?_)) | (with_reducible refine s_loadA S (h := ?_)) | ((with_reducible refine s_store S (h := ?_)); clear S; intro w S)))
                    refine ⟨.inl rfl, ?_⟩; simp only [Act.put, List.setIfInBounds_toArray, List.set_cons_zero, List.set_cons_succ]
                    refine m_end (by kernel_rfl) ?_
                    exact hJ b9 b10 _ (S.sel (by repeat (first | exact Sel.nil | (apply Sel.cons (by repeat (first | exact Rem.here | apply Rem.there))))))
                  · go_wp2_with ((with_reducible refine s_alloc S (h := ?_)); clear S; intro b9 w S hcN)
                    refine ⟨.inr hcN, ?_⟩; clear hcN; simp only [Act.put, List.setIfInBounds_toArray, List.set_cons_zero, List.set_cons_succ]
                    refine m_G 9 [] (by kernel_rfl) (by repeat (with_reducible first | exact .zero | apply Nth.succ)) ?_
                    go_wp2_with (go_at_call 169; refine (at_ok2 _ d n _ u (s.extract j s.size) y _ (hU.step S.chg) hO2 hz2.out he2 hk2.out hy.out).mono ?_; rintro e w1 ⟨rfl, hcN⟩; have S := S.step hcN)
                    refine ⟨.inr hcN, ?_⟩; clear hcN; simp only [Act.put, List.setIfInBounds_toArray, List.set_cons_zero, List.set_cons_succ]
                    refine m_G 12 [] (by kernel_rfl) (by repeat (with_reducible first | exact .zero | apply Nth.succ)) ?_
                    go_wp2_with ((first | ((with_reducible refine s_box S (h := ?_)); clear S; intro b w S hcN; clear hcN) | ((with_reducible refine s_alloc S (h := ?_)); clear S; intro b w S hcN; clear hcN) | (with_reducible refine s_load S (h := ?_)) | (with_reducible refine s_loadA S (h := ?_)) | ((with_reducible refine s_store S (h := ?_)); clear S; intro w S)))
                    refine ⟨.inl rfl, ?_⟩; simp only [Act.put, List.setIfInBounds_toArray, List.set_cons_zero, List.set_cons_succ]
                    refine m_G 13 [] (by kernel_rfl) (by repeat (with_reducible first | exact .zero | apply Nth.succ)) ?_
                    go_wp2_with ((first | ((with_reducible refine s_box S (h := ?_)); clear S; intro b w S hcN; clear hcN) | ((with_reducible refine s_alloc S (h := ?_)); clear S; intro b w S hcN; clear hcN) | (with_reducible refine s_load S (h := ?_)) | (with_reducible refine s_loadA S (h := ?_)) | ((with_reducible refine s_store S (h := ?_)); clear S; intro w S)))
                    refine ⟨.inl rfl, ?_⟩; simp only [Act.put, List.setIfInBounds_toArray, List.set_cons_zero, List.set_cons_succ]
                    refine m_end (by kernel_rfl) ?_
                    exact hJ b9 b10 _ (S.sel (by repeat (first | exact Sel.nil | (apply Sel.cons (by repeat (first | exact Rem.here | apply Rem.there))))))
                · go_wp2_with ((with_reducible refine s_alloc S (h := ?_)); clear S; intro b9 w S hcN)
                  refine ⟨.inr hcN, ?_⟩; clear hcN; simp only [Act.put, List.setIfInBounds_toArray, List.set_cons_zero, List.set_cons_succ]
                  refine m_G 4 [] (by kernel_rfl) (by repeat (with_reducible first | exact .zero | apply Nth.succ)) ?_
                  go_wp2_with (go_at_call 169; refine (at_ok2 _ d n _ t (s.extract 0 j) x _ (hT.step S.chg) hO hz1.out he1 hk1.out hx.out).mono ?_; rintro e w1 ⟨rfl, hcN⟩; have S := S.step hcN)
                  refine ⟨.inr hcN, ?_⟩; clear hcN; simp only [Act.put, List.setIfInBounds_toArray, List.set_cons_zero, List.set_cons_succ]
                  refine m_G 9 [] (by kernel_rfl) (by repeat (with_reducible first | exact .zero | apply Nth.succ)) ?_
                  go_wp2_with (go_at_call 169; refine (at_ok2 _ d n _ u (s.extract j s.size) y _ (hU.step S.chg) hO2 hz2.out he2 hk2.out hy.out).mono ?_; rintro e w1 ⟨rfl, hcN⟩; have S := S.step hcN)
                  refine ⟨.inr hcN, ?_⟩; clear hcN; simp only [Act.put, List.setIfInBounds_toArray, List.set_cons_zero, List.set_cons_succ]
                  refine m_G 12 [] (by kernel_rfl) (by repeat (with_reducible first | exact .zero | apply Nth.succ)) ?_
                  go_wp2_with ((first | ((with_reducible refine s_box S (h := ?_)); clear S; intro b w S hcN; clear hcN) | ((with_reducible refine s_alloc S (h := ?_)); clear S; intro b w S hcN; clear hcN) | (with_reducible refine s_load S (h := ?_)) | (with_reducible refine s_loadA S (h := ?_)) | ((with_reducible refine s_store S (h := ?_)); clear S; intro w S)))
                  refine ⟨.inl rfl, ?_⟩; simp only [Act.put, List.setIfInBounds_toArray, List.set_cons_zero, List.set_cons_succ]
                  refine m_G 13 [] (by kernel_rfl) (by repeat (with_reducible first | exact .zero | apply Nth.succ)) ?_
                  go_wp2_with ((first | ((with_reducible refine s_box S (h := ?_)); clear S; intro b w S hcN; clear hcN) | ((with_reducible refine s_alloc S (h := ?_)); clear S; intro b w S hcN; clear hcN) | (with_reducible refine s_load S (h := ?_)) | (with_reducible refine s_loadA S (h := ?_)) | ((with_reducible refine s_store S (h := ?_)); clear S; intro w S)))
                  refine ⟨.inl rfl, ?_⟩; simp only [Act.put, List.setIfInBounds_toArray, List.set_cons_zero, List.set_cons_succ]
                  refine m_end (by kernel_rfl) ?_
                  exact hJ b9 b10 _ (S.sel (by repeat (first | exact Sel.nil | (apply Sel.cons (by repeat (first | exact Rem.here | apply Rem.there))))))
            case' cont =>
              clear hQ
              intro b9 b10 w S
              refine (by assumption : ∀ a w, Code.wp _ _ _ a w → _) _ _ ?_
            cases hx0 : (x.num != 0) <;> cases hy0 : (y.num != 0)
            all_goals first
              | (replace hc := hid (hc.out.trans (if_pos (Or.inl (by simpa using hx0)))))
              | (replace hc := hid (hc.out.trans (if_pos (Or.inr (by simpa using hy0)))))
              | (replace hc := hid (hc.out.trans (if_neg (not_or.2 ⟨by simpa using hx0, by simpa using hy0⟩))))
            all_goals go_wp2_with (first
              | ((with_reducible refine gd 61 ?_); first | (with_reducible refine s_skip ?_) | (with_reducible refine s_load S (h := ?_)))
              | ((with_reducible refine s_box S (h := ?_)); clear S; intro b w S hcN; clear hcN) | ((with_reducible refine s_alloc S (h := ?_)); clear S; intro b w S hcN; clear hcN) | (with_reducible refine s_load S (h := ?_)) | (with_reducible refine s_loadA S (h := ?_)) | ((with_reducible refine s_store S (h := ?_)); clear S; intro w S)
              | (go_at_call 170; refine (addTimes_ok _ d n _ _ _ T1 s x y _ (S.piece (.keep (.keep (.keep (.take (.take .nil)))))) hOj hw2 hw1 hk3.out hx1 hx2).mono ?_; rintro e w1 ⟨rfl, T9⟩; have S := S.call2 (.keep (.keep (.keep (.take (.take .nil))))) T9; clear T9))
            all_goals go_roundw
            all_goals first
              | (refine ⟨j + 1, hltj, by go_num, ?_⟩
                 rw [hc.out]
                 exact S.sel (by repeat (first | exact Sel.nil | (apply Sel.cons (by repeat (first | exact Rem.here | apply Rem.there))))))
              | (simp [intOf]; omega)
          · obtain rfl : j = s.size + 1 := by omega
            go_wp2
            go_roundw
            case rel => exact ⟨k + 1, _, hlt, by go_num, hid hTn.out.symm, S⟩
            case measure => simp [intOf]; omega
      · obtain rfl : k = W.length := by omega
        go_wp2
        refine s_ret1 S (h := ?_)
        rw [List.take_length] at hTk
        rw [← hTk.out]
        exact ⟨_, _, bs2, rfl, S.sel (by repeat (first | exact Sel.nil | (apply Sel.cons (by repeat (first | exact Rem.here | apply Rem.there)))))⟩
end Go.Proofs.Ytcfialfgkkjlfaa
