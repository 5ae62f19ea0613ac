/- Tables: contracts of series, told. -/
import Derived.Test.YtcfialfgkkjlfaaG4
set_option linter.unusedSimpArgs false
set_option linter.unusedVariables false
namespace Go.Sg
open Go.Sx
/-- The terms of the values at words that are not 0. -/
def termOf (p : ByteArray × Frac) : Option Term := if p.2.num = 0 then none else some ⟨p.1, p.2⟩
def serL (ws : List ByteArray) (vals : List Frac) : List Term := (ws.zip vals).filterMap termOf
theorem serL_next {ws : List ByteArray} {vals : List Frac} {k : Nat} (h1 : k < ws.length) (h2 : k < vals.length) :
    serL (ws.take (k + 1)) (vals.take (k + 1)) = serL (ws.take k) (vals.take k) ++ (termOf (ws[k], vals[k])).toList := by
  unfold serL
  rw [take_next h1, take_next h2, List.zip_append (by simp; omega), List.filterMap_append]
  congr 1
theorem serL_len {ws : List ByteArray} {vals : List Frac} : (serL ws vals).length ≤ ws.length := by
  unfold serL
  refine Nat.le_trans (List.length_filterMap_le _ _) ?_
  rw [List.length_zip]
  omega
def serT (d n : Nat) (t : Tb) : List Term := serL (allW d n) t.vals
end Go.Sg
namespace Go.Proofs.Ytcfialfgkkjlfaa
open Go.RowKit Go.Sx Go.Sg
abbrev serC (b : Nat) (d n : Int) (v : Value) : Res := cel b [.int .i64 d, .int .i64 n, v] 39
abbrev serV (v : Value) (xs : List Term) (bs : List Nat) : Res := own 98 dTerm v xs bs
set_option maxRecDepth 100000 in
theorem series_ok (b d n : Nat) (v : Value) (t : Tb) (w0 : World) (hT : TabR w0 b d n v t) (hO : TOk d n t) :
    Calls Try.prog 132 #[.pointer (some ⟨b, 0, none⟩)] w0 fun e w' => ∃ v' bs, e = .returned (.agg #[.int .i64 d, .int .i64 n, v']) ∧ St [] w0 w' [serV v' (serT d n t) bs] := by
  have S := St.start w0
  obtain ⟨A, c, rfl, hc1, hc2⟩ := hT.rd.slice
  unfold maxLen at hc2
  have h0 := hT.hd
  have h1 := hT.hn
  have h2 := hT.hv
  have hl := allW_len_le hO.hd hO.hn
  have hlen := hO.len
  have hd3 := hO.hd
  have hn8 := hO.hn
  have he : serT d n t = serL (allW d n) t.vals := rfl
  rw [he]
  clear he
  generalize hW : allW d n = W at *
  replace hlen := hid hlen
  go_enter Try.func132, Try.ntmps132
  go_wp2_with (first | ((with_reducible refine s_alloc S (h := ?_)); clear S; intro b1 w S hcN; clear hcN) | ((with_reducible refine s_box S (h := ?_)); clear S; intro b w S hcN; clear hcN) | ((with_reducible refine s_alloc S (h := ?_)); clear S; intro b w S hcN; clear hcN) | (with_reducible refine s_load S (h := ?_)) | (with_reducible refine s_loadA S (h := ?_)) | ((with_reducible refine s_store S (h := ?_)); clear S; intro w S))
  refine m_startS 11 [10] [0, 1, 2, 3, 4, 5, 6, 7, 8] S ?_
  clear S; intro w hQ S hcD
  (repeat (first | ((with_reducible apply m_P hQ); (case hn => repeat (with_reducible first | exact .zero | apply Nth.succ)); (case hc => kernel_rfl); (case hy => first | exact y_ldE (h0.step S.chg) | exact y_ldE (h1.step S.chg) | (apply y_quo <;> first | rfl | assumption | omega) | (apply y_pure <;> first | rfl | (intro w'; go_simp; with_reducible rfl))); (case' h => simp only [Act.put, List.setIfInBounds_toArray, List.set_cons_zero, List.set_cons_succ])) | ((with_reducible apply m_R hQ); (case hn => repeat (with_reducible first | exact .zero | apply Nth.succ)); (case hc => kernel_rfl); (case hy => first | exact y_loadA S | exact y_load S | exact y_ldE (h0.step S.chg) | exact y_ldE (h1.step S.chg)); (case' h => simp only [Act.put, List.setIfInBounds_toArray, List.set_cons_zero, List.set_cons_succ]))))
  refine m_G 9 [] (by kernel_rfl) (by repeat (with_reducible first | exact .zero | apply Nth.succ)) ?_
  go_wp2_with ((first | ((with_reducible refine s_box S (h := ?_)); clear S; intro b w S hcN) | ((with_reducible refine s_alloc S (h := ?_)); clear S; intro b w S hcN) | (with_reducible refine s_load S (h := ?_)) | (with_reducible refine s_loadA S (h := ?_)) | ((with_reducible refine s_store S (h := ?_)); clear S; intro w S)))
  refine ⟨.inr hcN, ?_⟩; clear hcN; simp only [Act.put, List.setIfInBounds_toArray, List.set_cons_zero, List.set_cons_succ]
  refine m_G 10 [] (by kernel_rfl) (by repeat (with_reducible first | exact .zero | apply Nth.succ)) ?_
  go_wp2_with ((first | ((with_reducible refine s_box S (h := ?_)); clear S; intro b w S hcN; clear hcN) | ((with_reducible refine s_alloc S (h := ?_)); clear S; intro b w S hcN; clear hcN) | (with_reducible refine s_load S (h := ?_)) | (with_reducible refine s_loadA S (h := ?_)) | ((with_reducible refine s_store S (h := ?_)); clear S; intro w S)))
  refine ⟨.inl rfl, ?_⟩; simp only [Act.put, List.setIfInBounds_toArray, List.set_cons_zero, List.set_cons_succ]
  (refine m_end (by kernel_rfl) ?_; refine (by assumption : ∀ a w, Code.wp _ _ _ a w → _) _ _ ?_)
  go_wp2
  refine m_startS 11 [] [0, 1, 2, 3, 4, 5, 6, 7, 10] S ?_
  clear S; intro w hQ S hcD
  (repeat (first | ((with_reducible apply m_P hQ); (case hn => repeat (with_reducible first | exact .zero | apply Nth.succ)); (case hc => kernel_rfl); (case hy => first | exact y_ldE (h0.step S.chg) | exact y_ldE (h1.step S.chg) | (apply y_quo <;> first | rfl | assumption | omega) | (apply y_pure <;> first | rfl | (intro w'; go_simp; with_reducible rfl))); (case' h => simp only [Act.put, List.setIfInBounds_toArray, List.set_cons_zero, List.set_cons_succ])) | ((with_reducible apply m_R hQ); (case hn => repeat (with_reducible first | exact .zero | apply Nth.succ)); (case hc => kernel_rfl); (case hy => first | exact y_loadA S | exact y_load S | exact y_ldE (h0.step S.chg) | exact y_ldE (h1.step S.chg)); (case' h => simp only [Act.put, List.setIfInBounds_toArray, List.set_cons_zero, List.set_cons_succ]))))
  refine m_G 8 [9] (by kernel_rfl) (by repeat (with_reducible first | exact .zero | apply Nth.succ)) ?_
  go_wp2_with (go_at_call 141; refine (allWords_ok d n _ hd3 hn8).mono ?_; rintro e w1 ⟨v2, bs2, rfl, T⟩; rw [hW] at T; have hcN := T.chg; have S := S.grow1 T; clear T; obtain ⟨A2, c2, rfl, -, -⟩ := own_slice S (.head _))
  refine ⟨.inr hcN, ?_⟩; clear hcN; simp only [Act.put, List.setIfInBounds_toArray, List.set_cons_zero, List.set_cons_succ]
  (repeat (first | ((with_reducible apply m_P hQ); (case hn => repeat (with_reducible first | exact .zero | apply Nth.succ)); (case hc => kernel_rfl); (case hy => first | exact y_ldE (h0.step S.chg) | exact y_ldE (h1.step S.chg) | (apply y_quo <;> first | rfl | assumption | omega) | (apply y_pure <;> first | rfl | (intro w'; go_simp; with_reducible rfl))); (case' h => simp only [Act.put, List.setIfInBounds_toArray, List.set_cons_zero, List.set_cons_succ])) | ((with_reducible apply m_R hQ); (case hn => repeat (with_reducible first | exact .zero | apply Nth.succ)); (case hc => kernel_rfl); (case hy => first | exact y_loadA S | exact y_load S | exact y_ldE (h0.step S.chg) | exact y_ldE (h1.step S.chg)); (case' h => simp only [Act.put, List.setIfInBounds_toArray, List.set_cons_zero, List.set_cons_succ]))))
  (refine m_end (by kernel_rfl) ?_; refine (by assumption : ∀ a w, Code.wp _ _ _ a w → _) _ _ ?_)
  have S := S.nilOwn2 (e := 98) (d := dTerm)
  go_wp2
  go_loopw [25] (fun i wr => ∃ (k : Nat) (v' : Value) (bs' : List Nat), k ≤ W.length ∧ i = .int .i64 k ∧ St [] w0 wr [serV v' (serL (W.take k) (t.vals.take k)) bs', own 9 dStr (.slice A2 W.length c2) W bs2, serC b d n v', serC b1 0 0 (.slice none 0 0)]) (fun i _ => W.length - (intOf i).toNat)
  case atStart => exact ⟨0, _, _, Nat.zero_le _, rfl, S⟩
  case round =>
    clear S
    obtain ⟨k, v', bs', hk, rfl, S⟩ := hrel
    have hsl := serL_len (ws := W.take k) (vals := t.vals.take k)
    rw [List.length_take, Nat.min_eq_left hk] at hsl
    generalize hx : serL (W.take k) (t.vals.take k) = xs at *
    replace hx := hid hx
    have hb : (xs.length + 1) * 32 ≤ 140737488355328 := by omega
    replace hb := hid hb
    clear hsl
    obtain ⟨A3, c3, rfl, hc3, hc4⟩ := own_slice S (.head _)
    unfold maxLen at hc4
    by_cases hlt : k < W.length
    · have hlt2 : k < t.vals.length := by rw [hlen.out]; exact hlt
      obtain ⟨ad, cy, rfl, -, ⟨_, rfl, _⟩, hE⟩ := S.rd1.getS k _ (List.getElem?_eq_getElem hlt)
      obtain ⟨ad2, _, rfl, -, ⟨_, rfl, _⟩, hE2⟩ := hT.rd.getS k _ (List.getElem?_eq_getElem hlt2)
      replace hE2 : El _ _ [.int .i64 (t.vals[k]).num, .int .i64 (t.vals[k]).den] := hE2
      have hnx := hid (serL_next hlt hlt2)
      go_wp2_with (first
        | (with_reducible refine s_idxS (h := ?_))
        | ((with_reducible refine gd 29 ?_); refine s_ldE rfl hE rfl ?_)
        | ((with_reducible refine gd 33 ?_); refine s_ldE rfl (h2.step S.chg) rfl ?_)
        | ((with_reducible refine gd 37 ?_); refine s_ldE rfl (hE2.step S.chg) rfl ?_)
        | (with_reducible refine s_fld (h := ?_)))
      · refine m_startS 15 [12, 14] [0, 1, 2, 3, 4, 5, 6, 7, 8, 9, 10] S ?_
        clear S; intro w hQ S hcD
        (repeat (first | ((with_reducible apply m_P hQ); (case hn => repeat (with_reducible first | exact .zero | apply Nth.succ)); (case hc => kernel_rfl); (case hy => first | exact y_load S | exact y_ldE (h2.step S.chg) | exact y_ldEA (hE2.step S.chg) | (apply y_idxS <;> first | rfl | omega) | (apply y_quo <;> first | rfl | assumption | omega) | (apply y_pure <;> first | rfl | (intro w'; go_simp; with_reducible rfl))); (case' h => simp only [Act.put, List.setIfInBounds_toArray, List.set_cons_zero, List.set_cons_succ])) | ((with_reducible apply m_R hQ); (case hn => repeat (with_reducible first | exact .zero | apply Nth.succ)); (case hc => kernel_rfl); (case hy => first | exact y_loadA S | exact y_load S | exact y_load S | exact y_ldE (h2.step S.chg) | exact y_ldEA (hE2.step S.chg) | (apply y_idxS <;> first | rfl | omega)); (case' h => simp only [Act.put, List.setIfInBounds_toArray, List.set_cons_zero, List.set_cons_succ]))))
        refine m_G 11 [] (by kernel_rfl) (by repeat (with_reducible first | exact .zero | apply Nth.succ)) ?_
        go_wp2_with ((with_reducible refine gd 50 ?_); refine s_bs (cs := [.string W[k], .int .i64 (t.vals[k]).num, .int .i64 (t.vals[k]).den]) S ?_; clear S; intro b3 w1 S hcN)
        refine ⟨.inr hcN, ?_⟩; clear hcN; simp only [Act.put, List.setIfInBounds_toArray, List.set_cons_zero, List.set_cons_succ]
        refine m_G 12 [13] (by kernel_rfl) (by repeat (with_reducible first | exact .zero | apply Nth.succ)) ?_
        go_wp2_with ((with_reducible refine gd 51 ?_); refine s_app (x0 := (⟨W[k], t.vals[k]⟩ : Term)) S rfl (by decide) (by decide) rfl rfl (.take (.take (Split.none _))) (fun _ => ⟨rfl, rfl⟩) hb.out ?_; clear S; intro A4 c4 bs4 w1 S)
        refine ⟨.inl rfl, ?_⟩; simp only [Act.put, List.setIfInBounds_toArray, List.set_cons_zero, List.set_cons_succ]
        (repeat (first | ((with_reducible apply m_P hQ); (case hn => repeat (with_reducible first | exact .zero | apply Nth.succ)); (case hc => kernel_rfl); (case hy => first | exact y_load S | exact y_ldE (h2.step S.chg) | exact y_ldEA (hE2.step S.chg) | (apply y_idxS <;> first | rfl | omega) | (apply y_quo <;> first | rfl | assumption | omega) | (apply y_pure <;> first | rfl | (intro w'; go_simp; with_reducible rfl))); (case' h => simp only [Act.put, List.setIfInBounds_toArray, List.set_cons_zero, List.set_cons_succ])) | ((with_reducible apply m_R hQ); (case hn => repeat (with_reducible first | exact .zero | apply Nth.succ)); (case hc => kernel_rfl); (case hy => first | exact y_loadA S | exact y_load S | exact y_load S | exact y_ldE (h2.step S.chg) | exact y_ldEA (hE2.step S.chg) | (apply y_idxS <;> first | rfl | omega)); (case' h => simp only [Act.put, List.setIfInBounds_toArray, List.set_cons_zero, List.set_cons_succ]))))
        refine m_G 14 [] (by kernel_rfl) (by repeat (with_reducible first | exact .zero | apply Nth.succ)) ?_
        go_wp2_with ((first | ((with_reducible refine s_box S (h := ?_)); clear S; intro b w S hcN; clear hcN) | ((with_reducible refine s_alloc S (h := ?_)); clear S; intro b w S hcN; clear hcN) | (with_reducible refine s_load S (h := ?_)) | (with_reducible refine s_loadA S (h := ?_)) | ((with_reducible refine s_store S (h := ?_)); clear S; intro w S)))
        refine ⟨.inl rfl, ?_⟩; simp only [Act.put, List.setIfInBounds_toArray, List.set_cons_zero, List.set_cons_succ]
        (refine m_end (by kernel_rfl) ?_; refine (by assumption : ∀ a w, Code.wp _ _ _ a w → _) _ _ ?_)
        go_wp2
        go_roundw
        case rel =>
          refine ⟨k + 1, .slice A4 (xs.length + 1) c4, bs4, hlt, by go_num, ?_⟩
          have h : (t.vals[k].num != 0) = true := by assumption
          rw [hnx.out, termOf, if_neg (by simpa using h), hx.out]
          exact S
        case measure => simp [intOf]; omega
      · go_roundw
        case rel =>
          refine ⟨k + 1, .slice A3 xs.length c3, bs', hlt, by go_num, ?_⟩
          have h : (t.vals[k].num != 0) = false := by assumption
          rw [hnx.out, termOf, if_pos (by simpa using h), hx.out]
          simp only [Option.toList, List.append_nil]
          exact S
        case measure => simp [intOf]; omega
    · obtain rfl : k = W.length := by omega
      go_wp2_with (first | ((with_reducible refine s_box S (h := ?_)); clear S; intro b w S hcN; clear hcN) | ((with_reducible refine s_alloc S (h := ?_)); clear S; intro b w S hcN; clear hcN) | (with_reducible refine s_load S (h := ?_)) | (with_reducible refine s_loadA S (h := ?_)) | ((with_reducible refine s_store S (h := ?_)); clear S; intro w S))
      refine s_ret1 S (h := ?_)
      refine ⟨_, bs', rfl, ?_⟩
      rw [show serL W t.vals = xs from by rw [← hx.out, List.take_length, List.take_of_length_le (Nat.le_of_eq hlen.out)]]
      exact S.sel (by repeat (first | exact Sel.nil | (apply Sel.cons (by repeat (first | exact Rem.here | apply Rem.there)))))
end Go.Proofs.Ytcfialfgkkjlfaa
