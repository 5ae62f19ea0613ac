/- Contract of the reference: l01Put. -/
import Derived.Test.YtcfialfgkkjlfaaH1
set_option linter.unusedSimpArgs false
set_option linter.unusedVariables false
namespace Go.Sg
open Go.Sx
def posW (ts : List Term) (w : ByteArray) : Nat := (ts.takeWhile fun t => befW t.word w).length
def putMid (w : ByteArray) (a : Frac) : List Term := if a.num = 0 then [] else [⟨w, a⟩]
def putL (ts : List Term) (w : ByteArray) (a : Frac) : Option (List Term) :=
  match ts[posW ts w]? with
  | some t => if t.word = w then (addF t.val a).map fun s => ts.take (posW ts w) ++ putMid w s ++ ts.drop (posW ts w + 1) else some (ts.take (posW ts w) ++ putMid w a ++ ts.drop (posW ts w))
  | none => some (ts.take (posW ts w) ++ putMid w a ++ ts.drop (posW ts w))
theorem posW_at : ∀ {ts : List Term} {w : ByteArray} {k : Nat}, k ≤ ts.length → (∀ j (h : j < ts.length), j < k → befW ts[j].word w = true) → (∀ (h : k < ts.length), befW ts[k].word w = false) → posW ts w = k
  | [], w, k, h, _, _ => by simp at h; subst h; rfl
  | t :: ts, w, 0, _, _, h => by
    have := h (by simp)
    simp at this
    simp [posW, List.takeWhile_cons, this]
  | t :: ts, w, k + 1, hk, h1, h2 => by
    have h0 := h1 0 (by simp) (by omega)
    simp at h0
    have ih := posW_at (ts := ts) (w := w) (k := k) (by simpa using hk) (fun j h hj => h1 (j + 1) (by simpa using h) (by omega)) (fun h => h2 (by simpa using h))
    unfold posW at ih ⊢
    rw [List.takeWhile_cons, if_pos h0, List.length_cons, ih]
end Go.Sg
namespace Go.Proofs.Ytcfialfgkkjlfaa
open Go.RowKit Go.Sx Go.Sg
set_option maxRecDepth 100000 in
set_option maxHeartbeats 1000000 in
theorem l01Put_ok (ts : List Term) (s : ByteArray) (a : Frac) (v : Value) (w0 : World) (hR : Rd (sl 98 dTerm) w0 ts [v]) (hl : ts.length ≤ 1000000) (ha : isF a = true) (hts : ∀ t ∈ ts, isF t.val = true) (N : Nat) (hN : N ≤ 4611686018427387904) (hs : s.size ≤ N) (hw : ∀ t ∈ ts, t.word.size ≤ N) :
    Calls Try.prog 81 #[v, .string s, .agg #[.int .i64 a.num, .int .i64 a.den]] w0 fun e w' => ∃ v' bs, e = .returned (.tuple #[v', .bool (putL ts s a).isSome]) ∧ St [] w0 w' [serV v' ((putL ts s a).getD []) bs] := by
  have S := St.start w0
  obtain ⟨A, c, rfl, hc1, hc2⟩ := hR.slice
  unfold maxLen at hc2
  go_enter Try.func81, Try.ntmps81
  go_wp2_with (first | ((with_reducible refine s_box S (h := ?_)); clear S; intro b w S hcN; clear hcN) | ((with_reducible refine s_alloc S (h := ?_)); clear S; intro b w S hcN; clear hcN) | (with_reducible refine s_load S (h := ?_)) | (with_reducible refine s_loadA S (h := ?_)) | ((with_reducible refine s_store S (h := ?_)); clear S; intro w S))
  go_loopw [8] (fun i wr => ∃ k : Nat, k ≤ ts.length ∧ i = .int .i64 k ∧ Hid (∀ j (h : j < ts.length), j < k → befW ts[j].word s = true) ∧ St [] w0 wr [cel b [.int .i64 a.num, .int .i64 a.den] 76]) (fun i _ => ts.length - (intOf i).toNat)
  case atStart => exact ⟨0, Nat.zero_le _, rfl, hid (fun j _ h => by omega), S⟩
  case round =>
    clear S
    obtain ⟨k, hk, rfl, hp, S⟩ := hrel
    by_cases hgo : ∃ h : k < ts.length, befW ts[k].word s = true
    · obtain ⟨hlt, hbk⟩ := hgo
      obtain ⟨ad, _, rfl, -, ⟨_, rfl, _⟩, hE⟩ := hR.getS k _ (List.getElem?_eq_getElem hlt)
      replace hE : El _ _ [.string ts[k].word, .int .i64 ts[k].val.num, .int .i64 ts[k].val.den] := hE
      have hwk := hw _ (List.getElem_mem hlt)
      go_wp2_with (first
        | (with_reducible refine s_idxS (h := ?_))
        | (with_reducible refine s_fld (h := ?_))
        | ((with_reducible refine gd 21 ?_); refine s_ldE rfl (hE.step S.chg) rfl ?_)
        | (go_at_call 137; refine (l01Before_ok ts[k].word s _ N hN hwk hs).mono ?_; rw [hbk]; rintro e w1 ⟨rfl, hc⟩; have S := S.step hc; clear hc))
      go_roundw
      case rel =>
        refine ⟨k + 1, hlt, by go_num, hid (fun j h hj => ?_), S⟩
        by_cases hjk : j = k
        · subst hjk; exact hbk
        · exact hp.out j h (by omega)
      case measure => simp [intOf]; omega
    · have hstop : Hid (∀ h : k < ts.length, befW ts[k].word s = false) := hid (fun h => by
        cases hb : befW ts[k].word s
        · rfl
        · exact absurd ⟨h, hb⟩ hgo)
      clear hgo
      have hpos := hid (posW_at hk hp.out hstop.out)
      have htl : (ts.take k).length = k := by simp; omega
      have hb0 : (0 + (ts.take k).length) * 32 ≤ 140737488355328 := by omega
      have hb1 : Hid (((ts.take k).length + 1) * 32 ≤ 140737488355328) := hid (by omega)
      replace hb0 := hid hb0
      replace htl := hid htl
      by_cases hlt : k < ts.length
      · have hbk := hstop.out hlt
        obtain ⟨ad, _, rfl, -, ⟨_, rfl, _⟩, hE⟩ := hR.getS k _ (List.getElem?_eq_getElem hlt)
        replace hE : El _ _ [.string ts[k].word, .int .i64 ts[k].val.num, .int .i64 ts[k].val.den] := hE
        have hwk := hw _ (List.getElem_mem hlt)
        have hvk := hts _ (List.getElem_mem hlt)
        by_cases hws : ts[k].word = s
        · have hws2 := beqB_eq hws
          have hE1 : El _ _ [.int .i64 ts[k].val.num, .int .i64 ts[k].val.den] := hE.add 1
          have hput1 : putL ts s a = (addF ts[k].val a).map fun x => ts.take k ++ putMid s x ++ ts.drop (k + 1) := by
            unfold putL
            rw [hpos.out, List.getElem?_eq_getElem hlt]
            show (if ts[k].word = s then _ else _) = _
            rw [if_pos hws]
          replace hws := hid hws
          cases hsum : addF ts[k].val a with
          | none =>
            have hput : Hid (putL ts s a = none) := hid (by rw [hput1, hsum]; rfl)
            clear hput1
            replace hsum := hid hsum
            go_wp2_with (first
              | (with_reducible refine s_idxS (h := ?_))
              | (with_reducible refine s_fld (h := ?_))
              | ((with_reducible refine gd 21 ?_); refine s_ldE rfl (hE.step S.chg) rfl ?_)
              | ((with_reducible refine gd 41 ?_); refine s_ldE rfl (hE.step S.chg) rfl ?_)
              | (go_at_call 137; refine (l01Before_ok ts[k].word s _ N hN hwk hs).mono ?_; rw [hbk]; rintro e w1 ⟨rfl, hc⟩; have S := S.step hc; clear hc)
              | ((with_reducible refine gd 27 ?_); refine s_bs0 (d := dTerm) S ?_; clear S; intro b3 w1 S hcN; clear hcN)
              | ((with_reducible refine gd 30 ?_); refine s_slTn (k := k) (S.rd hR) rfl rfl hk ?_; intro A4 L4 c4 hL4 hR4)
              | ((with_reducible refine gd 31 ?_); refine s_appM (xs := []) (ys := ts.take k) S rfl (by decide) (by decide) rfl rfl hL4.out hR4 (.take (Split.none _)) hb0.out ?_; clear S; intro A5 N5 c5 bs5 w1 hN5 S; rw [List.nil_append] at S)
              | ((with_reducible refine s_box S (h := ?_)); clear S; intro b w S hcN; clear hcN) | ((with_reducible refine s_alloc S (h := ?_)); clear S; intro b w S hcN; clear hcN) | (with_reducible refine s_load S (h := ?_)) | (with_reducible refine s_loadA S (h := ?_)) | ((with_reducible refine s_store S (h := ?_)); clear S; intro w S))
            refine m_startS 13 [11] [0, 1, 2, 3, 4, 5] S ?_
            clear S; intro w hQ S hcD
            (repeat (first | ((with_reducible apply m_P hQ); (case hn => repeat (with_reducible first | exact .zero | apply Nth.succ)); (case hc => kernel_rfl); (case hy => first | exact y_load S | exact y_ldEA (hE1.step S.chg) | (apply y_idxS <;> first | rfl | omega) | (apply y_quo <;> first | rfl | assumption | omega) | (apply y_pure <;> first | rfl | (intro w'; go_simp; with_reducible rfl))); (case' h => simp only [Act.put, List.setIfInBounds_toArray, List.set_cons_zero, List.set_cons_succ])) | ((with_reducible apply m_R hQ); (case hn => repeat (with_reducible first | exact .zero | apply Nth.succ)); (case hc => kernel_rfl); (case hy => first | exact y_loadA S | exact y_load S | exact y_load S | exact y_ldEA (hE1.step S.chg) | (apply y_idxS <;> first | rfl | omega)); (case' h => simp only [Act.put, List.setIfInBounds_toArray, List.set_cons_zero, List.set_cons_succ]))))
            apply m_join1
            case br =>
              intro hJ
              refine m_G2 6 10 [7, 8, 9] [] (by kernel_rfl) (by repeat (with_reducible first | exact .zero | apply Nth.succ)) (by repeat (with_reducible first | exact .zero | apply Nth.succ)) ?_ ?_
              · go_wp2_with (go_at_call 57; refine (l01Plus_ok ts[k].val a _ (isF_ok hvk) (isF_ok ha)).mono ?_; rw [hsum.out]; rintro e w1 ⟨rfl, hcN⟩; have S := S.step hcN)
                refine ⟨.inr hcN, ?_⟩; clear hcN; simp only [Act.put, List.setIfInBounds_toArray, List.set_cons_zero, List.set_cons_succ]
                (repeat (first | ((with_reducible apply m_P hQ); (case hn => repeat (with_reducible first | exact .zero | apply Nth.succ)); (case hc => kernel_rfl); (case hy => first | exact y_load S | exact y_ldEA (hE1.step S.chg) | (apply y_idxS <;> first | rfl | omega) | (apply y_quo <;> first | rfl | assumption | omega) | (apply y_pure <;> first | rfl | (intro w'; go_simp; with_reducible rfl))); (case' h => simp only [Act.put, List.setIfInBounds_toArray, List.set_cons_zero, List.set_cons_succ])) | ((with_reducible apply m_R hQ); (case hn => repeat (with_reducible first | exact .zero | apply Nth.succ)); (case hc => kernel_rfl); (case hy => first | exact y_loadA S | exact y_load S | exact y_load S | exact y_ldEA (hE1.step S.chg) | (apply y_idxS <;> first | rfl | omega)); (case' h => simp only [Act.put, List.setIfInBounds_toArray, List.set_cons_zero, List.set_cons_succ]))))
                refine m_G 10 [] (by kernel_rfl) (by repeat (with_reducible first | exact .zero | apply Nth.succ)) ?_
                go_wp2_with ((with_reducible refine s_alloc S (h := ?_)); clear S; intro b10 w S hcN)
                refine ⟨.inr hcN, ?_⟩; clear hcN; simp only [Act.put, List.setIfInBounds_toArray, List.set_cons_zero, List.set_cons_succ]
                refine m_G 11 [12] (by kernel_rfl) (by repeat (with_reducible first | exact .zero | apply Nth.succ)) ?_
                go_wp2_with ((first | ((with_reducible refine s_box S (h := ?_)); clear S; intro b w S hcN; clear hcN) | ((with_reducible refine s_alloc S (h := ?_)); clear S; intro b w S hcN; clear hcN) | (with_reducible refine s_load S (h := ?_)) | (with_reducible refine s_loadA S (h := ?_)) | ((with_reducible refine s_store S (h := ?_)); clear S; intro w S)))
                refine ⟨.inl rfl, ?_⟩; simp only [Act.put, List.setIfInBounds_toArray, List.set_cons_zero, List.set_cons_succ]
                (repeat (first | ((with_reducible apply m_P hQ); (case hn => repeat (with_reducible first | exact .zero | apply Nth.succ)); (case hc => kernel_rfl); (case hy => first | exact y_load S | exact y_ldEA (hE1.step S.chg) | (apply y_idxS <;> first | rfl | omega) | (apply y_quo <;> first | rfl | assumption | omega) | (apply y_pure <;> first | rfl | (intro w'; go_simp; with_reducible rfl))); (case' h => simp only [Act.put, List.setIfInBounds_toArray, List.set_cons_zero, List.set_cons_succ])) | ((with_reducible apply m_R hQ); (case hn => repeat (with_reducible first | exact .zero | apply Nth.succ)); (case hc => kernel_rfl); (case hy => first | exact y_loadA S | exact y_load S | exact y_load S | exact y_ldEA (hE1.step S.chg) | (apply y_idxS <;> first | rfl | omega)); (case' h => simp only [Act.put, List.setIfInBounds_toArray, List.set_cons_zero, List.set_cons_succ]))))
                refine m_end (by kernel_rfl) ?_
                exact hJ b10 _ S
              · go_wp2_with ((with_reducible refine s_alloc S (h := ?_)); clear S; intro b10 w S hcN)
                refine ⟨.inr hcN, ?_⟩; clear hcN; simp only [Act.put, List.setIfInBounds_toArray, List.set_cons_zero, List.set_cons_succ]
                refine m_G 6 [7, 8, 9] (by kernel_rfl) (by repeat (with_reducible first | exact .zero | apply Nth.succ)) ?_
                go_wp2_with (go_at_call 57; refine (l01Plus_ok ts[k].val a _ (isF_ok hvk) (isF_ok ha)).mono ?_; rw [hsum.out]; rintro e w1 ⟨rfl, hcN⟩; have S := S.step hcN)
                refine ⟨.inr hcN, ?_⟩; clear hcN; simp only [Act.put, List.setIfInBounds_toArray, List.set_cons_zero, List.set_cons_succ]
                (repeat (first | ((with_reducible apply m_P hQ); (case hn => repeat (with_reducible first | exact .zero | apply Nth.succ)); (case hc => kernel_rfl); (case hy => first | exact y_load S | exact y_ldEA (hE1.step S.chg) | (apply y_idxS <;> first | rfl | omega) | (apply y_quo <;> first | rfl | assumption | omega) | (apply y_pure <;> first | rfl | (intro w'; go_simp; with_reducible rfl))); (case' h => simp only [Act.put, List.setIfInBounds_toArray, List.set_cons_zero, List.set_cons_succ])) | ((with_reducible apply m_R hQ); (case hn => repeat (with_reducible first | exact .zero | apply Nth.succ)); (case hc => kernel_rfl); (case hy => first | exact y_loadA S | exact y_load S | exact y_load S | exact y_ldEA (hE1.step S.chg) | (apply y_idxS <;> first | rfl | omega)); (case' h => simp only [Act.put, List.setIfInBounds_toArray, List.set_cons_zero, List.set_cons_succ]))))
                refine m_G 11 [12] (by kernel_rfl) (by repeat (with_reducible first | exact .zero | apply Nth.succ)) ?_
                go_wp2_with ((first | ((with_reducible refine s_box S (h := ?_)); clear S; intro b w S hcN; clear hcN) | ((with_reducible refine s_alloc S (h := ?_)); clear S; intro b w S hcN; clear hcN) | (with_reducible refine s_load S (h := ?_)) | (with_reducible refine s_loadA S (h := ?_)) | ((with_reducible refine s_store S (h := ?_)); clear S; intro w S)))
                refine ⟨.inl rfl, ?_⟩; simp only [Act.put, List.setIfInBounds_toArray, List.set_cons_zero, List.set_cons_succ]
                (repeat (first | ((with_reducible apply m_P hQ); (case hn => repeat (with_reducible first | exact .zero | apply Nth.succ)); (case hc => kernel_rfl); (case hy => first | exact y_load S | exact y_ldEA (hE1.step S.chg) | (apply y_idxS <;> first | rfl | omega) | (apply y_quo <;> first | rfl | assumption | omega) | (apply y_pure <;> first | rfl | (intro w'; go_simp; with_reducible rfl))); (case' h => simp only [Act.put, List.setIfInBounds_toArray, List.set_cons_zero, List.set_cons_succ])) | ((with_reducible apply m_R hQ); (case hn => repeat (with_reducible first | exact .zero | apply Nth.succ)); (case hc => kernel_rfl); (case hy => first | exact y_loadA S | exact y_load S | exact y_load S | exact y_ldEA (hE1.step S.chg) | (apply y_idxS <;> first | rfl | omega)); (case' h => simp only [Act.put, List.setIfInBounds_toArray, List.set_cons_zero, List.set_cons_succ]))))
                refine m_end (by kernel_rfl) ?_
                exact hJ b10 _ (S.sel (by repeat (first | exact Sel.nil | (apply Sel.cons (by repeat (first | exact Rem.here | apply Rem.there))))))
            case' cont =>
              clear hQ
              intro b10 w S
              refine (by assumption : ∀ a w, Code.wp _ _ _ a w → _) _ _ ?_
            go_wp2_with (first | ((with_reducible refine s_box S (h := ?_)); clear S; intro b w S hcN; clear hcN) | ((with_reducible refine s_alloc S (h := ?_)); clear S; intro b w S hcN; clear hcN) | (with_reducible refine s_load S (h := ?_)) | (with_reducible refine s_loadA S (h := ?_)) | ((with_reducible refine s_store S (h := ?_)); clear S; intro w S))
            refine s_ret2 S (h := ?_)
            refine ⟨.slice none 0 0, [], ?_, ?_⟩
            all_goals rw [hput.out]
            · rfl
            · exact S.nilOwn
          | some x =>
            have hput0 : putL ts s a = some (ts.take k ++ putMid s x ++ ts.drop (k + 1)) := by rw [hput1, hsum]; rfl
            clear hput1
            replace hsum := hid hsum
            cases hz : (x.num == 0)
            · have hput : Hid (putL ts s a = some (ts.take k ++ [⟨s, x⟩] ++ ts.drop (k + 1))) := hid (by rw [hput0, putMid, if_neg (by simpa using hz)])
              clear hput0
              go_wp2_with (first
                | (with_reducible refine s_idxS (h := ?_))
                | (with_reducible refine s_fld (h := ?_))
                | ((with_reducible refine gd 21 ?_); refine s_ldE rfl (hE.step S.chg) rfl ?_)
                | ((with_reducible refine gd 41 ?_); refine s_ldE rfl (hE.step S.chg) rfl ?_)
                | (go_at_call 137; refine (l01Before_ok ts[k].word s _ N hN hwk hs).mono ?_; rw [hbk]; rintro e w1 ⟨rfl, hc⟩; have S := S.step hc; clear hc)
                | ((with_reducible refine gd 27 ?_); refine s_bs0 (d := dTerm) S ?_; clear S; intro b3 w1 S hcN; clear hcN)
                | ((with_reducible refine gd 30 ?_); refine s_slTn (k := k) (S.rd hR) rfl rfl hk ?_; intro A4 L4 c4 hL4 hR4)
                | ((with_reducible refine gd 31 ?_); refine s_appM (xs := []) (ys := ts.take k) S rfl (by decide) (by decide) rfl rfl hL4.out hR4 (.take (Split.none _)) hb0.out ?_; clear S; intro A5 N5 c5 bs5 w1 hN5 S; rw [List.nil_append] at S)
                | ((with_reducible refine s_box S (h := ?_)); clear S; intro b w S hcN; clear hcN) | ((with_reducible refine s_alloc S (h := ?_)); clear S; intro b w S hcN; clear hcN) | (with_reducible refine s_load S (h := ?_)) | (with_reducible refine s_loadA S (h := ?_)) | ((with_reducible refine s_store S (h := ?_)); clear S; intro w S))
              refine m_startS 13 [11] [0, 1, 2, 3, 4, 5] S ?_
              clear S; intro w hQ S hcD
              (repeat (first | ((with_reducible apply m_P hQ); (case hn => repeat (with_reducible first | exact .zero | apply Nth.succ)); (case hc => kernel_rfl); (case hy => first | exact y_load S | exact y_ldEA (hE1.step S.chg) | (apply y_idxS <;> first | rfl | omega) | (apply y_quo <;> first | rfl | assumption | omega) | (apply y_pure <;> first | rfl | (intro w'; go_simp; with_reducible rfl))); (case' h => simp only [Act.put, List.setIfInBounds_toArray, List.set_cons_zero, List.set_cons_succ])) | ((with_reducible apply m_R hQ); (case hn => repeat (with_reducible first | exact .zero | apply Nth.succ)); (case hc => kernel_rfl); (case hy => first | exact y_loadA S | exact y_load S | exact y_load S | exact y_ldEA (hE1.step S.chg) | (apply y_idxS <;> first | rfl | omega)); (case' h => simp only [Act.put, List.setIfInBounds_toArray, List.set_cons_zero, List.set_cons_succ]))))
              apply m_join1
              case br =>
                intro hJ
                refine m_G2 6 10 [7, 8, 9] [] (by kernel_rfl) (by repeat (with_reducible first | exact .zero | apply Nth.succ)) (by repeat (with_reducible first | exact .zero | apply Nth.succ)) ?_ ?_
                · go_wp2_with (go_at_call 57; refine (l01Plus_ok ts[k].val a _ (isF_ok hvk) (isF_ok ha)).mono ?_; rw [hsum.out]; rintro e w1 ⟨rfl, hcN⟩; have S := S.step hcN)
                  refine ⟨.inr hcN, ?_⟩; clear hcN; simp only [Act.put, List.setIfInBounds_toArray, List.set_cons_zero, List.set_cons_succ]
                  (repeat (first | ((with_reducible apply m_P hQ); (case hn => repeat (with_reducible first | exact .zero | apply Nth.succ)); (case hc => kernel_rfl); (case hy => first | exact y_load S | exact y_ldEA (hE1.step S.chg) | (apply y_idxS <;> first | rfl | omega) | (apply y_quo <;> first | rfl | assumption | omega) | (apply y_pure <;> first | rfl | (intro w'; go_simp; with_reducible rfl))); (case' h => simp only [Act.put, List.setIfInBounds_toArray, List.set_cons_zero, List.set_cons_succ])) | ((with_reducible apply m_R hQ); (case hn => repeat (with_reducible first | exact .zero | apply Nth.succ)); (case hc => kernel_rfl); (case hy => first | exact y_loadA S | exact y_load S | exact y_load S | exact y_ldEA (hE1.step S.chg) | (apply y_idxS <;> first | rfl | omega)); (case' h => simp only [Act.put, List.setIfInBounds_toArray, List.set_cons_zero, List.set_cons_succ]))))
                  refine m_G 10 [] (by kernel_rfl) (by repeat (with_reducible first | exact .zero | apply Nth.succ)) ?_
                  go_wp2_with ((with_reducible refine s_alloc S (h := ?_)); clear S; intro b10 w S hcN)
                  refine ⟨.inr hcN, ?_⟩; clear hcN; simp only [Act.put, List.setIfInBounds_toArray, List.set_cons_zero, List.set_cons_succ]
                  refine m_G 11 [12] (by kernel_rfl) (by repeat (with_reducible first | exact .zero | apply Nth.succ)) ?_
                  go_wp2_with ((first | ((with_reducible refine s_box S (h := ?_)); clear S; intro b w S hcN; clear hcN) | ((with_reducible refine s_alloc S (h := ?_)); clear S; intro b w S hcN; clear hcN) | (with_reducible refine s_load S (h := ?_)) | (with_reducible refine s_loadA S (h := ?_)) | ((with_reducible refine s_store S (h := ?_)); clear S; intro w S)))
                  refine ⟨.inl rfl, ?_⟩; simp only [Act.put, List.setIfInBounds_toArray, List.set_cons_zero, List.set_cons_succ]
                  (repeat (first | ((with_reducible apply m_P hQ); (case hn => repeat (with_reducible first | exact .zero | apply Nth.succ)); (case hc => kernel_rfl); (case hy => first | exact y_load S | exact y_ldEA (hE1.step S.chg) | (apply y_idxS <;> first | rfl | omega) | (apply y_quo <;> first | rfl | assumption | omega) | (apply y_pure <;> first | rfl | (intro w'; go_simp; with_reducible rfl))); (case' h => simp only [Act.put, List.setIfInBounds_toArray, List.set_cons_zero, List.set_cons_succ])) | ((with_reducible apply m_R hQ); (case hn => repeat (with_reducible first | exact .zero | apply Nth.succ)); (case hc => kernel_rfl); (case hy => first | exact y_loadA S | exact y_load S | exact y_load S | exact y_ldEA (hE1.step S.chg) | (apply y_idxS <;> first | rfl | omega)); (case' h => simp only [Act.put, List.setIfInBounds_toArray, List.set_cons_zero, List.set_cons_succ]))))
                  refine m_end (by kernel_rfl) ?_
                  exact hJ b10 _ S
                · go_wp2_with ((with_reducible refine s_alloc S (h := ?_)); clear S; intro b10 w S hcN)
                  refine ⟨.inr hcN, ?_⟩; clear hcN; simp only [Act.put, List.setIfInBounds_toArray, List.set_cons_zero, List.set_cons_succ]
                  refine m_G 6 [7, 8, 9] (by kernel_rfl) (by repeat (with_reducible first | exact .zero | apply Nth.succ)) ?_
                  go_wp2_with (go_at_call 57; refine (l01Plus_ok ts[k].val a _ (isF_ok hvk) (isF_ok ha)).mono ?_; rw [hsum.out]; rintro e w1 ⟨rfl, hcN⟩; have S := S.step hcN)
                  refine ⟨.inr hcN, ?_⟩; clear hcN; simp only [Act.put, List.setIfInBounds_toArray, List.set_cons_zero, List.set_cons_succ]
                  (repeat (first | ((with_reducible apply m_P hQ); (case hn => repeat (with_reducible first | exact .zero | apply Nth.succ)); (case hc => kernel_rfl); (case hy => first | exact y_load S | exact y_ldEA (hE1.step S.chg) | (apply y_idxS <;> first | rfl | omega) | (apply y_quo <;> first | rfl | assumption | omega) | (apply y_pure <;> first | rfl | (intro w'; go_simp; with_reducible rfl))); (case' h => simp only [Act.put, List.setIfInBounds_toArray, List.set_cons_zero, List.set_cons_succ])) | ((with_reducible apply m_R hQ); (case hn => repeat (with_reducible first | exact .zero | apply Nth.succ)); (case hc => kernel_rfl); (case hy => first | exact y_loadA S | exact y_load S | exact y_load S | exact y_ldEA (hE1.step S.chg) | (apply y_idxS <;> first | rfl | omega)); (case' h => simp only [Act.put, List.setIfInBounds_toArray, List.set_cons_zero, List.set_cons_succ]))))
                  refine m_G 11 [12] (by kernel_rfl) (by repeat (with_reducible first | exact .zero | apply Nth.succ)) ?_
                  go_wp2_with ((first | ((with_reducible refine s_box S (h := ?_)); clear S; intro b w S hcN; clear hcN) | ((with_reducible refine s_alloc S (h := ?_)); clear S; intro b w S hcN; clear hcN) | (with_reducible refine s_load S (h := ?_)) | (with_reducible refine s_loadA S (h := ?_)) | ((with_reducible refine s_store S (h := ?_)); clear S; intro w S)))
                  refine ⟨.inl rfl, ?_⟩; simp only [Act.put, List.setIfInBounds_toArray, List.set_cons_zero, List.set_cons_succ]
                  (repeat (first | ((with_reducible apply m_P hQ); (case hn => repeat (with_reducible first | exact .zero | apply Nth.succ)); (case hc => kernel_rfl); (case hy => first | exact y_load S | exact y_ldEA (hE1.step S.chg) | (apply y_idxS <;> first | rfl | omega) | (apply y_quo <;> first | rfl | assumption | omega) | (apply y_pure <;> first | rfl | (intro w'; go_simp; with_reducible rfl))); (case' h => simp only [Act.put, List.setIfInBounds_toArray, List.set_cons_zero, List.set_cons_succ])) | ((with_reducible apply m_R hQ); (case hn => repeat (with_reducible first | exact .zero | apply Nth.succ)); (case hc => kernel_rfl); (case hy => first | exact y_loadA S | exact y_load S | exact y_load S | exact y_ldEA (hE1.step S.chg) | (apply y_idxS <;> first | rfl | omega)); (case' h => simp only [Act.put, List.setIfInBounds_toArray, List.set_cons_zero, List.set_cons_succ]))))
                  refine m_end (by kernel_rfl) ?_
                  exact hJ b10 _ (S.sel (by repeat (first | exact Sel.nil | (apply Sel.cons (by repeat (first | exact Rem.here | apply Rem.there))))))
              case' cont =>
                clear hQ
                intro b10 w S
                refine (by assumption : ∀ a w, Code.wp _ _ _ a w → _) _ _ ?_
              go_wp2_with (first
                | ((with_reducible refine s_box S (h := ?_)); clear S; intro b w S hcN; clear hcN) | ((with_reducible refine s_alloc S (h := ?_)); clear S; intro b w S hcN; clear hcN) | (with_reducible refine s_load S (h := ?_)) | (with_reducible refine s_loadA S (h := ?_)) | ((with_reducible refine s_store S (h := ?_)); clear S; intro w S)
                | (go_at_call 136; refine (l01Zero_ok x _).mono ?_; rintro e w1 ⟨rfl, hc⟩; have S := S.step hc; clear hc)
                | ((with_reducible refine gd 67 ?_); refine s_bs (cs := [.string s, .int .i64 (x).num, .int .i64 (x).den]) S ?_; clear S; intro b7 w1 S hcN; clear hcN)
                | ((with_reducible refine gd 68 ?_); refine s_app1 (d := dTerm) (x0 := (⟨s, x⟩ : Term)) S rfl (by decide) (by decide) rfl rfl (by exact .take (.keep (.take (Split.none _)))) (fun _ => ⟨rfl, rfl⟩) hb1.out ?_; clear S; intro A6 N6 c6 bs6 w1 hN6 S)
                | ((with_reducible refine gd 72 ?_); refine s_slDn (k := (k + 1)) (S.rd hR) rfl rfl rfl (by omega) ?_; intro A8 L8 c8 hL8 hR8)
                | ((with_reducible refine gd 73 ?_); refine s_appM (ys := ts.drop (k + 1)) S rfl (by decide) (by decide) rfl rfl hL8.out hR8 (by exact .take (Split.none _)) (by simp only [List.length_take, List.length_drop, List.length_append, List.length_cons, List.length_nil]; omega) ?_; clear S; intro A9 N9 c9 bs9 w1 hN9 S))
              refine s_ret2 S (h := ?_)
              refine ⟨.slice A9 N9 c9, bs9, ?_, ?_⟩
              all_goals rw [hput.out]
              · rfl
              · exact S.sel (by repeat (first | exact Sel.nil | (apply Sel.cons (by repeat (first | exact Rem.here | apply Rem.there)))))
            · have hput : Hid (putL ts s a = some (ts.take k ++ ts.drop (k + 1))) := hid (by rw [hput0, putMid, if_pos (by simpa using hz), List.append_nil])
              clear hput0
              go_wp2_with (first
                | (with_reducible refine s_idxS (h := ?_))
                | (with_reducible refine s_fld (h := ?_))
                | ((with_reducible refine gd 21 ?_); refine s_ldE rfl (hE.step S.chg) rfl ?_)
                | ((with_reducible refine gd 41 ?_); refine s_ldE rfl (hE.step S.chg) rfl ?_)
                | (go_at_call 137; refine (l01Before_ok ts[k].word s _ N hN hwk hs).mono ?_; rw [hbk]; rintro e w1 ⟨rfl, hc⟩; have S := S.step hc; clear hc)
                | ((with_reducible refine gd 27 ?_); refine s_bs0 (d := dTerm) S ?_; clear S; intro b3 w1 S hcN; clear hcN)
                | ((with_reducible refine gd 30 ?_); refine s_slTn (k := k) (S.rd hR) rfl rfl hk ?_; intro A4 L4 c4 hL4 hR4)
                | ((with_reducible refine gd 31 ?_); refine s_appM (xs := []) (ys := ts.take k) S rfl (by decide) (by decide) rfl rfl hL4.out hR4 (.take (Split.none _)) hb0.out ?_; clear S; intro A5 N5 c5 bs5 w1 hN5 S; rw [List.nil_append] at S)
                | ((with_reducible refine s_box S (h := ?_)); clear S; intro b w S hcN; clear hcN) | ((with_reducible refine s_alloc S (h := ?_)); clear S; intro b w S hcN; clear hcN) | (with_reducible refine s_load S (h := ?_)) | (with_reducible refine s_loadA S (h := ?_)) | ((with_reducible refine s_store S (h := ?_)); clear S; intro w S))
              refine m_startS 13 [11] [0, 1, 2, 3, 4, 5] S ?_
              clear S; intro w hQ S hcD
              (repeat (first | ((with_reducible apply m_P hQ); (case hn => repeat (with_reducible first | exact .zero | apply Nth.succ)); (case hc => kernel_rfl); (case hy => first | exact y_load S | exact y_ldEA (hE1.step S.chg) | (apply y_idxS <;> first | rfl | omega) | (apply y_quo <;> first | rfl | assumption | omega) | (apply y_pure <;> first | rfl | (intro w'; go_simp; with_reducible rfl))); (case' h => simp only [Act.put, List.setIfInBounds_toArray, List.set_cons_zero, List.set_cons_succ])) | ((with_reducible apply m_R hQ); (case hn => repeat (with_reducible first | exact .zero | apply Nth.succ)); (case hc => kernel_rfl); (case hy => first | exact y_loadA S | exact y_load S | exact y_load S | exact y_ldEA (hE1.step S.chg) | (apply y_idxS <;> first | rfl | omega)); (case' h => simp only [Act.put, List.setIfInBounds_toArray, List.set_cons_zero, List.set_cons_succ]))))
              apply m_join1
              case br =>
                intro hJ
                refine m_G2 6 10 [7, 8, 9] [] (by kernel_rfl) (by repeat (with_reducible first | exact .zero | apply Nth.succ)) (by repeat (with_reducible first | exact .zero | apply Nth.succ)) ?_ ?_
                · go_wp2_with (go_at_call 57; refine (l01Plus_ok ts[k].val a _ (isF_ok hvk) (isF_ok ha)).mono ?_; rw [hsum.out]; rintro e w1 ⟨rfl, hcN⟩; have S := S.step hcN)
                  refine ⟨.inr hcN, ?_⟩; clear hcN; simp only [Act.put, List.setIfInBounds_toArray, List.set_cons_zero, List.set_cons_succ]
                  (repeat (first | ((with_reducible apply m_P hQ); (case hn => repeat (with_reducible first | exact .zero | apply Nth.succ)); (case hc => kernel_rfl); (case hy => first | exact y_load S | exact y_ldEA (hE1.step S.chg) | (apply y_idxS <;> first | rfl | omega) | (apply y_quo <;> first | rfl | assumption | omega) | (apply y_pure <;> first | rfl | (intro w'; go_simp; with_reducible rfl))); (case' h => simp only [Act.put, List.setIfInBounds_toArray, List.set_cons_zero, List.set_cons_succ])) | ((with_reducible apply m_R hQ); (case hn => repeat (with_reducible first | exact .zero | apply Nth.succ)); (case hc => kernel_rfl); (case hy => first | exact y_loadA S | exact y_load S | exact y_load S | exact y_ldEA (hE1.step S.chg) | (apply y_idxS <;> first | rfl | omega)); (case' h => simp only [Act.put, List.setIfInBounds_toArray, List.set_cons_zero, List.set_cons_succ]))))
                  refine m_G 10 [] (by kernel_rfl) (by repeat (with_reducible first | exact .zero | apply Nth.succ)) ?_
                  go_wp2_with ((with_reducible refine s_alloc S (h := ?_)); clear S; intro b10 w S hcN)
                  refine ⟨.inr hcN, ?_⟩; clear hcN; simp only [Act.put, List.setIfInBounds_toArray, List.set_cons_zero, List.set_cons_succ]
                  refine m_G 11 [12] (by kernel_rfl) (by repeat (with_reducible first | exact .zero | apply Nth.succ)) ?_
                  go_wp2_with ((first | ((with_reducible refine s_box S (h := ?_)); clear S; intro b w S hcN; clear hcN) | ((with_reducible refine s_alloc S (h := ?_)); clear S; intro b w S hcN; clear hcN) | (with_reducible refine s_load S (h := ?_)) | (with_reducible refine s_loadA S (h := ?_)) | ((with_reducible refine s_store S (h := ?_)); clear S; intro w S)))
                  refine ⟨.inl rfl, ?_⟩; simp only [Act.put, List.setIfInBounds_toArray, List.set_cons_zero, List.set_cons_succ]
                  (repeat (first | ((with_reducible apply m_P hQ); (case hn => repeat (with_reducible first | exact .zero | apply Nth.succ)); (case hc => kernel_rfl); (case hy => first | exact y_load S | exact y_ldEA (hE1.step S.chg) | (apply y_idxS <;> first | rfl | omega) | (apply y_quo <;> first | rfl | assumption | omega) | (apply y_pure <;> first | rfl | (intro w'; go_simp; with_reducible rfl))); (case' h => simp only [Act.put, List.setIfInBounds_toArray, List.set_cons_zero, List.set_cons_succ])) | ((with_reducible apply m_R hQ); (case hn => repeat (with_reducible first | exact .zero | apply Nth.succ)); (case hc => kernel_rfl); (case hy => first | exact y_loadA S | exact y_load S | exact y_load S | exact y_ldEA (hE1.step S.chg) | (apply y_idxS <;> first | rfl | omega)); (case' h => simp only [Act.put, List.setIfInBounds_toArray, List.set_cons_zero, List.set_cons_succ]))))
                  refine m_end (by kernel_rfl) ?_
                  exact hJ b10 _ S
                · go_wp2_with ((with_reducible refine s_alloc S (h := ?_)); clear S; intro b10 w S hcN)
                  refine ⟨.inr hcN, ?_⟩; clear hcN; simp only [Act.put, List.setIfInBounds_toArray, List.set_cons_zero, List.set_cons_succ]
                  refine m_G 6 [7, 8, 9] (by kernel_rfl) (by repeat (with_reducible first | exact .zero | apply Nth.succ)) ?_
                  go_wp2_with (go_at_call 57; refine (l01Plus_ok ts[k].val a _ (isF_ok hvk) (isF_ok ha)).mono ?_; rw [hsum.out]; rintro e w1 ⟨rfl, hcN⟩; have S := S.step hcN)
                  refine ⟨.inr hcN, ?_⟩; clear hcN; simp only [Act.put, List.setIfInBounds_toArray, List.set_cons_zero, List.set_cons_succ]
                  (repeat (first | ((with_reducible apply m_P hQ); (case hn => repeat (with_reducible first | exact .zero | apply Nth.succ)); (case hc => kernel_rfl); (case hy => first | exact y_load S | exact y_ldEA (hE1.step S.chg) | (apply y_idxS <;> first | rfl | omega) | (apply y_quo <;> first | rfl | assumption | omega) | (apply y_pure <;> first | rfl | (intro w'; go_simp; with_reducible rfl))); (case' h => simp only [Act.put, List.setIfInBounds_toArray, List.set_cons_zero, List.set_cons_succ])) | ((with_reducible apply m_R hQ); (case hn => repeat (with_reducible first | exact .zero | apply Nth.succ)); (case hc => kernel_rfl); (case hy => first | exact y_loadA S | exact y_load S | exact y_load S | exact y_ldEA (hE1.step S.chg) | (apply y_idxS <;> first | rfl | omega)); (case' h => simp only [Act.put, List.setIfInBounds_toArray, List.set_cons_zero, List.set_cons_succ]))))
                  refine m_G 11 [12] (by kernel_rfl) (by repeat (with_reducible first | exact .zero | apply Nth.succ)) ?_
                  go_wp2_with ((first | ((with_reducible refine s_box S (h := ?_)); clear S; intro b w S hcN; clear hcN) | ((with_reducible refine s_alloc S (h := ?_)); clear S; intro b w S hcN; clear hcN) | (with_reducible refine s_load S (h := ?_)) | (with_reducible refine s_loadA S (h := ?_)) | ((with_reducible refine s_store S (h := ?_)); clear S; intro w S)))
                  refine ⟨.inl rfl, ?_⟩; simp only [Act.put, List.setIfInBounds_toArray, List.set_cons_zero, List.set_cons_succ]
                  (repeat (first | ((with_reducible apply m_P hQ); (case hn => repeat (with_reducible first | exact .zero | apply Nth.succ)); (case hc => kernel_rfl); (case hy => first | exact y_load S | exact y_ldEA (hE1.step S.chg) | (apply y_idxS <;> first | rfl | omega) | (apply y_quo <;> first | rfl | assumption | omega) | (apply y_pure <;> first | rfl | (intro w'; go_simp; with_reducible rfl))); (case' h => simp only [Act.put, List.setIfInBounds_toArray, List.set_cons_zero, List.set_cons_succ])) | ((with_reducible apply m_R hQ); (case hn => repeat (with_reducible first | exact .zero | apply Nth.succ)); (case hc => kernel_rfl); (case hy => first | exact y_loadA S | exact y_load S | exact y_load S | exact y_ldEA (hE1.step S.chg) | (apply y_idxS <;> first | rfl | omega)); (case' h => simp only [Act.put, List.setIfInBounds_toArray, List.set_cons_zero, List.set_cons_succ]))))
                  refine m_end (by kernel_rfl) ?_
                  exact hJ b10 _ (S.sel (by repeat (first | exact Sel.nil | (apply Sel.cons (by repeat (first | exact Rem.here | apply Rem.there))))))
              case' cont =>
                clear hQ
                intro b10 w S
                refine (by assumption : ∀ a w, Code.wp _ _ _ a w → _) _ _ ?_
              go_wp2_with (first
                | ((with_reducible refine s_box S (h := ?_)); clear S; intro b w S hcN; clear hcN) | ((with_reducible refine s_alloc S (h := ?_)); clear S; intro b w S hcN; clear hcN) | (with_reducible refine s_load S (h := ?_)) | (with_reducible refine s_loadA S (h := ?_)) | ((with_reducible refine s_store S (h := ?_)); clear S; intro w S)
                | (go_at_call 136; refine (l01Zero_ok x _).mono ?_; rintro e w1 ⟨rfl, hc⟩; have S := S.step hc; clear hc)
                | ((with_reducible refine gd 67 ?_); refine s_bs (cs := [.string s, .int .i64 (x).num, .int .i64 (x).den]) S ?_; clear S; intro b7 w1 S hcN; clear hcN)
                | ((with_reducible refine gd 68 ?_); refine s_app1 (d := dTerm) (x0 := (⟨s, x⟩ : Term)) S rfl (by decide) (by decide) rfl rfl (by exact .take (.keep (.take (Split.none _)))) (fun _ => ⟨rfl, rfl⟩) hb1.out ?_; clear S; intro A6 N6 c6 bs6 w1 hN6 S)
                | ((with_reducible refine gd 72 ?_); refine s_slDn (k := (k + 1)) (S.rd hR) rfl rfl rfl (by omega) ?_; intro A8 L8 c8 hL8 hR8)
                | ((with_reducible refine gd 73 ?_); refine s_appM (ys := ts.drop (k + 1)) S rfl (by decide) (by decide) rfl rfl hL8.out hR8 (by exact .keep (.take (Split.none _))) (by simp only [List.length_take, List.length_drop, List.length_append, List.length_cons, List.length_nil]; omega) ?_; clear S; intro A9 N9 c9 bs9 w1 hN9 S))
              refine s_ret2 S (h := ?_)
              refine ⟨.slice A9 N9 c9, bs9, ?_, ?_⟩
              all_goals rw [hput.out]
              · rfl
              · exact S.sel (by repeat (first | exact Sel.nil | (apply Sel.cons (by repeat (first | exact Rem.here | apply Rem.there)))))
        · have hws2 := beqB_ne hws
          have hput0 : putL ts s a = some (ts.take k ++ putMid s a ++ ts.drop k) := by
            unfold putL
            rw [hpos.out, List.getElem?_eq_getElem hlt]
            show (if ts[k].word = s then _ else _) = _
            rw [if_neg hws]
          replace hws := hid hws
          cases hz : ((a).num == 0)
          · have hput : Hid (putL ts s a = some (ts.take k ++ [⟨s, a⟩] ++ ts.drop (k))) := hid (by rw [hput0, putMid, if_neg (by simpa using hz)])
            clear hput0
            go_wp2_with (first
              | (with_reducible refine s_idxS (h := ?_))
              | (with_reducible refine s_fld (h := ?_))
              | ((with_reducible refine gd 21 ?_); refine s_ldE rfl (hE.step S.chg) rfl ?_)
              | ((with_reducible refine gd 41 ?_); refine s_ldE rfl (hE.step S.chg) rfl ?_)
              | (go_at_call 137; refine (l01Before_ok ts[k].word s _ N hN hwk hs).mono ?_; rw [hbk]; rintro e w1 ⟨rfl, hc⟩; have S := S.step hc; clear hc)
              | ((with_reducible refine gd 27 ?_); refine s_bs0 (d := dTerm) S ?_; clear S; intro b3 w1 S hcN; clear hcN)
              | ((with_reducible refine gd 30 ?_); refine s_slTn (k := k) (S.rd hR) rfl rfl hk ?_; intro A4 L4 c4 hL4 hR4)
              | ((with_reducible refine gd 31 ?_); refine s_appM (xs := []) (ys := ts.take k) S rfl (by decide) (by decide) rfl rfl hL4.out hR4 (.take (Split.none _)) hb0.out ?_; clear S; intro A5 N5 c5 bs5 w1 hN5 S; rw [List.nil_append] at S)
              | ((with_reducible refine s_box S (h := ?_)); clear S; intro b w S hcN; clear hcN) | ((with_reducible refine s_alloc S (h := ?_)); clear S; intro b w S hcN; clear hcN) | (with_reducible refine s_load S (h := ?_)) | (with_reducible refine s_loadA S (h := ?_)) | ((with_reducible refine s_store S (h := ?_)); clear S; intro w S)
              | (go_at_call 136; refine (l01Zero_ok a _).mono ?_; rintro e w1 ⟨rfl, hc⟩; have S := S.step hc; clear hc)
              | ((with_reducible refine gd 67 ?_); refine s_bs (cs := [.string s, .int .i64 (a).num, .int .i64 (a).den]) S ?_; clear S; intro b7 w1 S hcN; clear hcN)
              | ((with_reducible refine gd 68 ?_); refine s_app1 (d := dTerm) (x0 := (⟨s, a⟩ : Term)) S rfl (by decide) (by decide) rfl rfl (by exact .take (.take (Split.none _))) (fun _ => ⟨rfl, rfl⟩) hb1.out ?_; clear S; intro A6 N6 c6 bs6 w1 hN6 S)
              | ((with_reducible refine gd 72 ?_); refine s_slDn (k := k) (S.rd hR) rfl rfl rfl (by omega) ?_; intro A8 L8 c8 hL8 hR8)
              | ((with_reducible refine gd 73 ?_); refine s_appM (ys := ts.drop k) S rfl (by decide) (by decide) rfl rfl hL8.out hR8 (by exact .take (Split.none _)) (by simp only [List.length_take, List.length_drop, List.length_append, List.length_cons, List.length_nil]; omega) ?_; clear S; intro A9 N9 c9 bs9 w1 hN9 S))
            refine s_ret2 S (h := ?_)
            refine ⟨.slice A9 N9 c9, bs9, ?_, ?_⟩
            all_goals rw [hput.out]
            · rfl
            · exact S.sel (by repeat (first | exact Sel.nil | (apply Sel.cons (by repeat (first | exact Rem.here | apply Rem.there)))))
          · have hput : Hid (putL ts s a = some (ts.take k ++ ts.drop (k))) := hid (by rw [hput0, putMid, if_pos (by simpa using hz), List.append_nil])
            clear hput0
            go_wp2_with (first
              | (with_reducible refine s_idxS (h := ?_))
              | (with_reducible refine s_fld (h := ?_))
              | ((with_reducible refine gd 21 ?_); refine s_ldE rfl (hE.step S.chg) rfl ?_)
              | ((with_reducible refine gd 41 ?_); refine s_ldE rfl (hE.step S.chg) rfl ?_)
              | (go_at_call 137; refine (l01Before_ok ts[k].word s _ N hN hwk hs).mono ?_; rw [hbk]; rintro e w1 ⟨rfl, hc⟩; have S := S.step hc; clear hc)
              | ((with_reducible refine gd 27 ?_); refine s_bs0 (d := dTerm) S ?_; clear S; intro b3 w1 S hcN; clear hcN)
              | ((with_reducible refine gd 30 ?_); refine s_slTn (k := k) (S.rd hR) rfl rfl hk ?_; intro A4 L4 c4 hL4 hR4)
              | ((with_reducible refine gd 31 ?_); refine s_appM (xs := []) (ys := ts.take k) S rfl (by decide) (by decide) rfl rfl hL4.out hR4 (.take (Split.none _)) hb0.out ?_; clear S; intro A5 N5 c5 bs5 w1 hN5 S; rw [List.nil_append] at S)
              | ((with_reducible refine s_box S (h := ?_)); clear S; intro b w S hcN; clear hcN) | ((with_reducible refine s_alloc S (h := ?_)); clear S; intro b w S hcN; clear hcN) | (with_reducible refine s_load S (h := ?_)) | (with_reducible refine s_loadA S (h := ?_)) | ((with_reducible refine s_store S (h := ?_)); clear S; intro w S)
              | (go_at_call 136; refine (l01Zero_ok a _).mono ?_; rintro e w1 ⟨rfl, hc⟩; have S := S.step hc; clear hc)
              | ((with_reducible refine gd 67 ?_); refine s_bs (cs := [.string s, .int .i64 (a).num, .int .i64 (a).den]) S ?_; clear S; intro b7 w1 S hcN; clear hcN)
              | ((with_reducible refine gd 68 ?_); refine s_app1 (d := dTerm) (x0 := (⟨s, a⟩ : Term)) S rfl (by decide) (by decide) rfl rfl (by exact .take (.take (Split.none _))) (fun _ => ⟨rfl, rfl⟩) hb1.out ?_; clear S; intro A6 N6 c6 bs6 w1 hN6 S)
              | ((with_reducible refine gd 72 ?_); refine s_slDn (k := k) (S.rd hR) rfl rfl rfl (by omega) ?_; intro A8 L8 c8 hL8 hR8)
              | ((with_reducible refine gd 73 ?_); refine s_appM (ys := ts.drop k) S rfl (by decide) (by decide) rfl rfl hL8.out hR8 (by exact .take (Split.none _)) (by simp only [List.length_take, List.length_drop, List.length_append, List.length_cons, List.length_nil]; omega) ?_; clear S; intro A9 N9 c9 bs9 w1 hN9 S))
            refine s_ret2 S (h := ?_)
            refine ⟨.slice A9 N9 c9, bs9, ?_, ?_⟩
            all_goals rw [hput.out]
            · rfl
            · exact S.sel (by repeat (first | exact Sel.nil | (apply Sel.cons (by repeat (first | exact Rem.here | apply Rem.there)))))
      · have hput0 : putL ts s a = some (ts.take k ++ putMid s a ++ ts.drop k) := by
          unfold putL
          rw [hpos.out, List.getElem?_eq_none (by omega)]
        cases hz : ((a).num == 0)
        · have hput : Hid (putL ts s a = some (ts.take k ++ [⟨s, a⟩] ++ ts.drop (k))) := hid (by rw [hput0, putMid, if_neg (by simpa using hz)])
          clear hput0
          go_wp2_with (first
            | ((with_reducible refine gd 21 ?_); with_reducible refine s_skip ?_)
            | ((with_reducible refine gd 41 ?_); with_reducible refine s_skip ?_)
            | ((with_reducible refine gd 27 ?_); refine s_bs0 (d := dTerm) S ?_; clear S; intro b3 w1 S hcN; clear hcN)
            | ((with_reducible refine gd 30 ?_); refine s_slTn (k := k) (S.rd hR) rfl rfl hk ?_; intro A4 L4 c4 hL4 hR4)
            | ((with_reducible refine gd 31 ?_); refine s_appM (xs := []) (ys := ts.take k) S rfl (by decide) (by decide) rfl rfl hL4.out hR4 (.take (Split.none _)) hb0.out ?_; clear S; intro A5 N5 c5 bs5 w1 hN5 S; rw [List.nil_append] at S)
            | ((with_reducible refine s_box S (h := ?_)); clear S; intro b w S hcN; clear hcN) | ((with_reducible refine s_alloc S (h := ?_)); clear S; intro b w S hcN; clear hcN) | (with_reducible refine s_load S (h := ?_)) | (with_reducible refine s_loadA S (h := ?_)) | ((with_reducible refine s_store S (h := ?_)); clear S; intro w S)
            | (go_at_call 136; refine (l01Zero_ok a _).mono ?_; rintro e w1 ⟨rfl, hc⟩; have S := S.step hc; clear hc)
            | ((with_reducible refine gd 67 ?_); refine s_bs (cs := [.string s, .int .i64 (a).num, .int .i64 (a).den]) S ?_; clear S; intro b7 w1 S hcN; clear hcN)
            | ((with_reducible refine gd 68 ?_); refine s_app1 (d := dTerm) (x0 := (⟨s, a⟩ : Term)) S rfl (by decide) (by decide) rfl rfl (by exact .take (.take (Split.none _))) (fun _ => ⟨rfl, rfl⟩) hb1.out ?_; clear S; intro A6 N6 c6 bs6 w1 hN6 S)
            | ((with_reducible refine gd 72 ?_); refine s_slDn (k := k) (S.rd hR) rfl rfl rfl (by omega) ?_; intro A8 L8 c8 hL8 hR8)
            | ((with_reducible refine gd 73 ?_); refine s_appM (ys := ts.drop k) S rfl (by decide) (by decide) rfl rfl hL8.out hR8 (by exact .take (Split.none _)) (by simp only [List.length_take, List.length_drop, List.length_append, List.length_cons, List.length_nil]; omega) ?_; clear S; intro A9 N9 c9 bs9 w1 hN9 S))
          refine s_ret2 S (h := ?_)
          refine ⟨.slice A9 N9 c9, bs9, ?_, ?_⟩
          all_goals rw [hput.out]
          · rfl
          · exact S.sel (by repeat (first | exact Sel.nil | (apply Sel.cons (by repeat (first | exact Rem.here | apply Rem.there)))))
        · have hput : Hid (putL ts s a = some (ts.take k ++ ts.drop (k))) := hid (by rw [hput0, putMid, if_pos (by simpa using hz), List.append_nil])
          clear hput0
          go_wp2_with (first
            | ((with_reducible refine gd 21 ?_); with_reducible refine s_skip ?_)
            | ((with_reducible refine gd 41 ?_); with_reducible refine s_skip ?_)
            | ((with_reducible refine gd 27 ?_); refine s_bs0 (d := dTerm) S ?_; clear S; intro b3 w1 S hcN; clear hcN)
            | ((with_reducible refine gd 30 ?_); refine s_slTn (k := k) (S.rd hR) rfl rfl hk ?_; intro A4 L4 c4 hL4 hR4)
            | ((with_reducible refine gd 31 ?_); refine s_appM (xs := []) (ys := ts.take k) S rfl (by decide) (by decide) rfl rfl hL4.out hR4 (.take (Split.none _)) hb0.out ?_; clear S; intro A5 N5 c5 bs5 w1 hN5 S; rw [List.nil_append] at S)
            | ((with_reducible refine s_box S (h := ?_)); clear S; intro b w S hcN; clear hcN) | ((with_reducible refine s_alloc S (h := ?_)); clear S; intro b w S hcN; clear hcN) | (with_reducible refine s_load S (h := ?_)) | (with_reducible refine s_loadA S (h := ?_)) | ((with_reducible refine s_store S (h := ?_)); clear S; intro w S)
            | (go_at_call 136; refine (l01Zero_ok a _).mono ?_; rintro e w1 ⟨rfl, hc⟩; have S := S.step hc; clear hc)
            | ((with_reducible refine gd 67 ?_); refine s_bs (cs := [.string s, .int .i64 (a).num, .int .i64 (a).den]) S ?_; clear S; intro b7 w1 S hcN; clear hcN)
            | ((with_reducible refine gd 68 ?_); refine s_app1 (d := dTerm) (x0 := (⟨s, a⟩ : Term)) S rfl (by decide) (by decide) rfl rfl (by exact .take (.take (Split.none _))) (fun _ => ⟨rfl, rfl⟩) hb1.out ?_; clear S; intro A6 N6 c6 bs6 w1 hN6 S)
            | ((with_reducible refine gd 72 ?_); refine s_slDn (k := k) (S.rd hR) rfl rfl rfl (by omega) ?_; intro A8 L8 c8 hL8 hR8)
            | ((with_reducible refine gd 73 ?_); refine s_appM (ys := ts.drop k) S rfl (by decide) (by decide) rfl rfl hL8.out hR8 (by exact .take (Split.none _)) (by simp only [List.length_take, List.length_drop, List.length_append, List.length_cons, List.length_nil]; omega) ?_; clear S; intro A9 N9 c9 bs9 w1 hN9 S))
          refine s_ret2 S (h := ?_)
          refine ⟨.slice A9 N9 c9, bs9, ?_, ?_⟩
          all_goals rw [hput.out]
          · rfl
          · exact S.sel (by repeat (first | exact Sel.nil | (apply Sel.cons (by repeat (first | exact Rem.here | apply Rem.there)))))
end Go.Proofs.Ytcfialfgkkjlfaa
