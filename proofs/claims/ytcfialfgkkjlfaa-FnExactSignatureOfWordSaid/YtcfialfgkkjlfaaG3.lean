/- Tables: definitions; contracts of newTable, like, check, unit. -/
import Derived.Test.YtcfialfgkkjlfaaG2
import Derived.Test.YtcfialfgkkjlfaaC6
import Derived.Test.YtcfialfgkkjlfaaA12
set_option linter.unusedSimpArgs false
set_option linter.unusedVariables false
namespace Go.Sx
open Go.RowKit
theorem St.call2 {M : List Nat} {w0 w w' : World} {H Hr Hk : List Res} {r s : Res} (S : St M w0 w H) (h : Split H Hr Hk) (T : St (feet Hr) w w' [r, s]) : St M w0 w' (r :: s :: Hk) := S.call h T
theorem St.grow2 {M : List Nat} {w0 w w' : World} {H : List Res} {r s : Res} (S : St M w0 w H) (T : St [] w w' [r, s]) : St M w0 w' (r :: s :: H) := S.grow T
theorem El.cel1 {M : List Nat} {w0 w : World} {H : List Res} {b off : Nat} {cs : List Value} {t : TypeId} {u : Value} (S : St M w0 w H) (hm : cel b cs t ∈ H) (hu : cs[off]? = some u) : El w ⟨b, off, none⟩ [u] := by
  have h := El.cel_at (off := off) S hm
  refine ⟨fun j x hj => ?_⟩
  match j, hj with
  | 0, hj =>
    obtain rfl : u = x := by simpa using hj
    exact h.at_ 0 u (by simpa using hu)
  | j + 1, hj => simp at hj
end Go.Sx
namespace Go.Sg
open Go.Sx
/-- A table: its values, and whether something has not fitted. -/
structure Tb where
  vals : List Frac
  bad : Bool
def chkV (x : Frac) (fits : Bool) : Frac := if fits then x else f01
def fitV (x : Frac) : Frac := chkV x (isF x)
theorem fitV_isF (x : Frac) : isF (fitV x) = true := by
  unfold fitV chkV
  split
  · assumption
  · decide
theorem fitV_of {x : Frac} (h : isF x = true) : fitV x = x := by unfold fitV chkV; rw [if_pos h]
def newT (d n : Nat) : Tb := ⟨List.replicate (allW d n).length f01, false⟩
/-- Tables of d letters and level n. -/
structure TOk (d n : Nat) (t : Tb) : Prop where
  hd : d ≤ 3
  hn : n ≤ 8
  len : t.vals.length = (allW d n).length
  fr : ∀ x ∈ t.vals, isF x = true
end Go.Sg
namespace Go.Proofs.Ytcfialfgkkjlfaa
open Go.RowKit Go.Sx Go.Sg
/-- A table's block; a table that is read. -/
abbrev tabC (b d n : Nat) (v : Value) (bad : Bool) : Res := cel b [.int .i64 d, .int .i64 n, v, .bool bad] 154
abbrev tabV (v : Value) (xs : List Frac) (bs : List Nat) : Res := own 76 dFrac v xs bs
structure TabR (w : World) (b d n : Nat) (v : Value) (t : Tb) : Prop where
  hd : El w ⟨b, 0, none⟩ [.int .i64 d]
  hn : El w ⟨b, 1, none⟩ [.int .i64 n]
  hv : El w ⟨b, 2, none⟩ [v]
  hb : El w ⟨b, 3, none⟩ [.bool t.bad]
  rd : Rd (sl 76 dFrac) w t.vals [v]
theorem TabR.step {w w' : World} {b d n : Nat} {v : Value} {t : Tb} (h : TabR w b d n v t) (hc : Chg [] w w') : TabR w' b d n v t := ⟨h.hd.step hc, h.hn.step hc, h.hv.step hc, h.hb.step hc, h.rd.step hc⟩
theorem TabR.of {M : List Nat} {w0 w : World} {H : List Res} {b d n : Nat} {v : Value} {t : Tb} {bs : List Nat} (S : St M w0 w H) (hm : tabC b d n v t.bad ∈ H) (hm2 : tabV v t.vals bs ∈ H) : TabR w b d n v t :=
  ⟨El.cel1 S hm rfl, El.cel1 S hm rfl, El.cel1 S hm rfl, El.cel1 S hm rfl, S.own_rd hm2⟩
theorem allW_len_le {d : Nat} (hd : d ≤ 3) : ∀ {n : Nat}, n ≤ 8 → (allW d n).length ≤ 59049 := by
  intro n hn
  have key : ∀ k, k ≤ 9 → ((List.range k).flatMap (wordsL d)).length ≤ k * 6561 := by
    intro k
    induction k with
    | zero => simp
    | succ k ih =>
      intro hk
      rw [List.range_succ, List.flatMap_append, List.length_append]
      have h1 := ih (by omega)
      have h2 : (wordsL d k).length ≤ 6561 := by rw [wordsL_len d k]; exact Nat.le_trans (Nat.pow_le_pow_left hd k) (Nat.pow_le_pow_right (by omega) (show k ≤ 8 by omega))
      simp only [List.flatMap_cons, List.flatMap_nil, List.append_nil]
      omega
  have := key (n + 1) (by omega)
  unfold allW
  omega
theorem allW_pos {d n : Nat} : 0 < (allW d n).length := by
  unfold allW
  rw [List.range_succ_eq_map, List.flatMap_cons]
  simp [wordsL]
set_option maxRecDepth 100000 in
theorem newTable_ok (d n : Nat) (w0 : World) (hd : d ≤ 3) (hn : n ≤ 8) : Calls Try.prog 85 #[.int .i64 d, .int .i64 n] w0 fun e w' => ∃ b v bs, e = .returned (.pointer (some ⟨b, 0, none⟩)) ∧ St [] w0 w' [tabC b d n v false, tabV v (newT d n).vals bs] := by
  have S := St.start w0
  have hl := allW_len_le hd hn
  have hp := allW_pos (d := d) (n := n)
  generalize hx : allW d n = xs at *
  go_enter Try.func85, Try.ntmps85
  go_wp2_with (first
    | (go_at_call 119; refine (zero_ok _).mono ?_; rintro e w1 ⟨rfl, hc⟩; have S := S.step hc; clear hc)
    | ((with_reducible refine gd 8 ?_); refine s_bs (cs := encF ⟨0, 1⟩) S ?_; clear S; intro b2 w1 S hcN; clear hcN)
    | (go_at_call 141; refine (allWords_ok d n _ hd hn).mono ?_; rintro e w1 ⟨v2, bs2, rfl, T⟩; rw [hx] at T; have S := S.grow1 T; clear T; obtain ⟨A2, c2, rfl, -, -⟩ := own_slice S (.head _))
    | (go_at_call 118; refine (repeatFraction_ok ⟨0, 1⟩ xs.length _ _ (Rd.one S (.tail _ (.head _)) (fun _ => ⟨rfl, rfl⟩)) hp (by omega)).mono ?_; rintro e w1 ⟨v3, bs3, rfl, T⟩; have S := S.grow1 T; clear T; obtain ⟨A3, c3, rfl, -, -⟩ := own_slice S (.head _); rw [List.length_replicate] at S ⊢)
    | ((with_reducible refine s_box S (h := ?_)); clear S; intro b w S hcN; clear hcN))
  refine s_ret1 S (h := ?_)
  refine ⟨b, .slice A3 xs.length c3, bs3, rfl, ?_⟩
  have e : (newT d n).vals = List.replicate xs.length ⟨0, 1⟩ := by unfold newT; rw [hx]; rfl
  rw [e]
  exact S.pick (.take (.take (.keep (.keep .nil))))
set_option maxRecDepth 100000 in
theorem like_ok (b d n : Nat) (v : Value) (t : Tb) (w0 : World) (hT : TabR w0 b d n v t) (hd : d ≤ 3) (hn : n ≤ 8) : Calls Try.prog 167 #[.pointer (some ⟨b, 0, none⟩)] w0 fun e w' => ∃ b v bs, e = .returned (.pointer (some ⟨b, 0, none⟩)) ∧ St [] w0 w' [tabC b d n v false, tabV v (newT d n).vals bs] := by
  have S := St.start w0
  go_enter Try.func167, Try.ntmps167
  go_wp2
  have h0 := hT.hd
  have h1 := hT.hn
  refine m_startS 10 [] [0, 1, 2, 3, 4, 5, 6, 7] S ?_
  clear S; intro w hQ S hcD
  (repeat (first | ((with_reducible apply m_P hQ); (case hn => repeat (with_reducible first | exact .zero | apply Nth.succ)); (case hc => kernel_rfl); (case hy => first | exact y_ldE (h0.step S.chg) | exact y_ldE (h1.step S.chg) | (apply y_quo <;> first | rfl | assumption | omega) | (apply y_pure <;> first | rfl | (intro w'; go_simp; with_reducible rfl))); (case' h => simp only [Act.put, List.setIfInBounds_toArray, List.set_cons_zero, List.set_cons_succ])) | ((with_reducible apply m_R hQ); (case hn => repeat (with_reducible first | exact .zero | apply Nth.succ)); (case hc => kernel_rfl); (case hy => first | exact y_loadA S | exact y_load S | exact y_ldE (h0.step S.chg) | exact y_ldE (h1.step S.chg)); (case' h => simp only [Act.put, List.setIfInBounds_toArray, List.set_cons_zero, List.set_cons_succ]))))
  refine m_G 8 [9] (by kernel_rfl) (by repeat (with_reducible first | exact .zero | apply Nth.succ)) ?_
  go_wp2_with (go_at_call 85; refine (newTable_ok d n _ hd hn).mono ?_; rintro e w1 ⟨b2, v2, bs2, rfl, T⟩; have hcN := T.chg; have S := S.grow2 T; clear T)
  refine ⟨.inr hcN, ?_⟩; clear hcN; simp only [Act.put, List.setIfInBounds_toArray, List.set_cons_zero, List.set_cons_succ]
  (repeat (first | ((with_reducible apply m_P hQ); (case hn => repeat (with_reducible first | exact .zero | apply Nth.succ)); (case hc => kernel_rfl); (case hy => first | exact y_ldE (h0.step S.chg) | exact y_ldE (h1.step S.chg) | (apply y_quo <;> first | rfl | assumption | omega) | (apply y_pure <;> first | rfl | (intro w'; go_simp; with_reducible rfl))); (case' h => simp only [Act.put, List.setIfInBounds_toArray, List.set_cons_zero, List.set_cons_succ])) | ((with_reducible apply m_R hQ); (case hn => repeat (with_reducible first | exact .zero | apply Nth.succ)); (case hc => kernel_rfl); (case hy => first | exact y_loadA S | exact y_load S | exact y_ldE (h0.step S.chg) | exact y_ldE (h1.step S.chg)); (case' h => simp only [Act.put, List.setIfInBounds_toArray, List.set_cons_zero, List.set_cons_succ]))))
  (refine m_end (by kernel_rfl) ?_; refine (by assumption : ∀ a w, Code.wp _ _ _ a w → _) _ _ ?_)
  go_wp2
  refine s_ret1 S (h := ?_)
  exact ⟨_, _, bs2, rfl, S⟩
set_option maxRecDepth 100000 in
theorem check_ok (b d n : Nat) (v : Value) (bad fits : Bool) (x : Frac) (M : List Nat) (w0 : World) (S : St M w0 w0 [tabC b d n v bad]) :
    Calls Try.prog 143 #[.pointer (some ⟨b, 0, none⟩), .agg #[.int .i64 x.num, .int .i64 x.den], .bool fits] w0 fun e w' => e = .returned (.agg #[.int .i64 (chkV x fits).num, .int .i64 (chkV x fits).den]) ∧ St M w0 w' [tabC b d n v (bad || !fits)] := by
  cases fits
  all_goals go_enter Try.func143, Try.ntmps143
  all_goals go_wp2_with (first
    | ((with_reducible refine s_box S (h := ?_)); clear S; intro b w S hcN; clear hcN) | ((with_reducible refine s_alloc S (h := ?_)); clear S; intro b w S hcN; clear hcN) | (with_reducible refine s_load S (h := ?_)) | (with_reducible refine s_loadA S (h := ?_)) | ((with_reducible refine s_store S (h := ?_)); clear S; intro w S)
    | (go_at_call 119; refine (zero_ok _).mono ?_; rintro e w1 ⟨rfl, hc⟩; have S := S.step hc; clear hc))
  all_goals refine s_ret1 S (h := ?_)
  · refine ⟨rfl, ?_⟩
    rw [show (bad || !false) = true from by simp]
    exact S.pick (.keep (.keep (.take .nil)))
  · refine ⟨rfl, ?_⟩
    rw [show (bad || !true) = bad from by simp]
    exact S.pick (.keep (.keep (.take .nil)))
set_option maxRecDepth 100000 in
theorem unit_ok (b d n : Nat) (v : Value) (t : Tb) (w0 : World) (hT : TabR w0 b d n v t) (hd : d ≤ 3) (hn : n ≤ 8) : Calls Try.prog 128 #[.pointer (some ⟨b, 0, none⟩)] w0 fun e w' => ∃ b v bs, e = .returned (.pointer (some ⟨b, 0, none⟩)) ∧ St [] w0 w' [tabC b d n v false, tabV v ((newT d n).vals.set 0 ⟨1, 1⟩) bs] := by
  have S := St.start w0
  go_enter Try.func128, Try.ntmps128
  go_wp2_with (go_at_call 167; refine (like_ok b d n v t _ hT hd hn).mono ?_; rintro e w1 ⟨b2, v2, bs2, rfl, T⟩; have S := S.grow2 T; clear T)
  obtain ⟨A2, c2, rfl, -, -⟩ := own_slice S (.tail _ (.head _))
  have hl : 0 < (newT d n).vals.length := by show 0 < (List.replicate _ _).length; rw [List.length_replicate]; exact allW_pos
  obtain ⟨g, -, -, rfl, -, -, -⟩ := own_getS S (.tail _ (.head _)) 0 _ (List.getElem?_eq_getElem hl)
  refine m_startS 7 [6] [0, 1, 2, 3] S ?_
  clear S; intro w hQ S hcD
  (repeat (first | ((with_reducible apply m_P hQ); (case hn => repeat (with_reducible first | exact .zero | apply Nth.succ)); (case hc => kernel_rfl); (case hy => first | (apply y_idxS <;> first | rfl | omega) | (apply y_quo <;> first | rfl | assumption | omega) | (apply y_pure <;> first | rfl | (intro w'; go_simp; with_reducible rfl))); (case' h => simp only [Act.put, List.setIfInBounds_toArray, List.set_cons_zero, List.set_cons_succ])) | ((with_reducible apply m_R hQ); (case hn => repeat (with_reducible first | exact .zero | apply Nth.succ)); (case hc => kernel_rfl); (case hy => first | exact y_loadA S | exact y_load S | (apply y_idxS <;> first | rfl | omega)); (case' h => simp only [Act.put, List.setIfInBounds_toArray, List.set_cons_zero, List.set_cons_succ]))))
  refine m_G 4 [5] (by kernel_rfl) (by repeat (with_reducible first | exact .zero | apply Nth.succ)) ?_
  go_wp2_with (go_at_call 168; refine (whole_ok _ _).mono ?_; rintro e w1 ⟨rfl, hcN⟩; have S := S.step hcN)
  refine ⟨.inr hcN, ?_⟩; clear hcN; simp only [Act.put, List.setIfInBounds_toArray, List.set_cons_zero, List.set_cons_succ]
  (repeat (first | ((with_reducible apply m_P hQ); (case hn => repeat (with_reducible first | exact .zero | apply Nth.succ)); (case hc => kernel_rfl); (case hy => first | (apply y_idxS <;> first | rfl | omega) | (apply y_quo <;> first | rfl | assumption | omega) | (apply y_pure <;> first | rfl | (intro w'; go_simp; with_reducible rfl))); (case' h => simp only [Act.put, List.setIfInBounds_toArray, List.set_cons_zero, List.set_cons_succ])) | ((with_reducible apply m_R hQ); (case hn => repeat (with_reducible first | exact .zero | apply Nth.succ)); (case hc => kernel_rfl); (case hy => first | exact y_loadA S | exact y_load S | (apply y_idxS <;> first | rfl | omega)); (case' h => simp only [Act.put, List.setIfInBounds_toArray, List.set_cons_zero, List.set_cons_succ]))))
  refine m_G 6 [] (by kernel_rfl) (by repeat (with_reducible first | exact .zero | apply Nth.succ)) ?_
  go_wp2_with ((with_reducible refine gs 11 ?_); refine s_stW (i := 0) (y0 := (⟨1, 1⟩ : Frac)) S (.there .here) rfl (by first | exact At.of | exact At.at_) hl rfl rfl ?_; clear S; intro w2 S)
  refine ⟨.inl rfl, ?_⟩; simp only [Act.put, List.setIfInBounds_toArray, List.set_cons_zero, List.set_cons_succ]
  (refine m_end (by kernel_rfl) ?_; refine (by assumption : ∀ a w, Code.wp _ _ _ a w → _) _ _ ?_)
  go_wp2
  refine s_ret1 S (h := ?_)
  exact ⟨_, _, bs2, rfl, S⟩
set_option maxRecDepth 100000 in
theorem at_ok (b d n : Nat) (v : Value) (t : Tb) (s : ByteArray) (w0 : World) (hT : TabR w0 b d n v t) (hO : TOk d n t) (hs : s.size ≤ n) (hw : lets d s = true) (hk : num d s < t.vals.length) :
    Calls Try.prog 169 #[.pointer (some ⟨b, 0, none⟩), .string s] w0 fun e w' => e = .returned (.agg #[.int .i64 (t.vals.getD (num d s) f01).num, .int .i64 (t.vals.getD (num d s) f01).den]) ∧ Chg [] w0 w' := by
  have S := St.start w0
  obtain ⟨A, c, rfl, hc1, hc2⟩ := hT.rd.slice
  unfold maxLen at hc2
  obtain ⟨ad, _, rfl, -, ⟨_, rfl, _⟩, hE⟩ := hT.rd.getS (num d s) _ (List.getElem?_eq_getElem hk)
  have e0 : t.vals.getD (num d s) f01 = t.vals[num d s] := by simp [hk]
  rw [e0]
  replace hE : El _ _ [.int .i64 (t.vals[num d s]).num, .int .i64 (t.vals[num d s]).den] := hE
  have h0 := hT.hd
  have h2 := hT.hv
  clear e0
  go_enter Try.func169, Try.ntmps169
  go_wp2_with (first | ((with_reducible refine s_box S (h := ?_)); clear S; intro b w S hcN; clear hcN) | ((with_reducible refine s_alloc S (h := ?_)); clear S; intro b w S hcN; clear hcN) | (with_reducible refine s_load S (h := ?_)) | (with_reducible refine s_loadA S (h := ?_)) | ((with_reducible refine s_store S (h := ?_)); clear S; intro w S))
  refine m_startS 13 [12] [0, 1, 2, 3, 4, 5, 6, 7, 8] S ?_
  clear S; intro w hQ S hcD
  (repeat (first | ((with_reducible apply m_P hQ); (case hn => repeat (with_reducible first | exact .zero | apply Nth.succ)); (case hc => kernel_rfl); (case hy => first | exact y_ldE (h0.step S.chg) | exact y_ldE (h2.step S.chg) | exact y_ldEA (hE.step S.chg) | (apply y_idxS <;> first | rfl | omega) | (apply y_quo <;> first | rfl | assumption | omega) | (apply y_pure <;> first | rfl | (intro w'; go_simp; with_reducible rfl))); (case' h => simp only [Act.put, List.setIfInBounds_toArray, List.set_cons_zero, List.set_cons_succ])) | ((with_reducible apply m_R hQ); (case hn => repeat (with_reducible first | exact .zero | apply Nth.succ)); (case hc => kernel_rfl); (case hy => first | exact y_loadA S | exact y_load S | exact y_ldE (h0.step S.chg) | exact y_ldE (h2.step S.chg) | exact y_ldEA (hE.step S.chg) | (apply y_idxS <;> first | rfl | omega)); (case' h => simp only [Act.put, List.setIfInBounds_toArray, List.set_cons_zero, List.set_cons_succ]))))
  refine m_G 9 [10, 11] (by kernel_rfl) (by repeat (with_reducible first | exact .zero | apply Nth.succ)) ?_
  go_wp2_with (go_at_call 142; refine (number_ok d s _ hO.hd (by have := hO.hn; omega) hw).mono ?_; rintro e w1 ⟨rfl, hcN⟩; have S := S.step hcN)
  refine ⟨.inr hcN, ?_⟩; clear hcN; simp only [Act.put, List.setIfInBounds_toArray, List.set_cons_zero, List.set_cons_succ]
  (repeat (first | ((with_reducible apply m_P hQ); (case hn => repeat (with_reducible first | exact .zero | apply Nth.succ)); (case hc => kernel_rfl); (case hy => first | exact y_ldE (h0.step S.chg) | exact y_ldE (h2.step S.chg) | exact y_ldEA (hE.step S.chg) | (apply y_idxS <;> first | rfl | omega) | (apply y_quo <;> first | rfl | assumption | omega) | (apply y_pure <;> first | rfl | (intro w'; go_simp; with_reducible rfl))); (case' h => simp only [Act.put, List.setIfInBounds_toArray, List.set_cons_zero, List.set_cons_succ])) | ((with_reducible apply m_R hQ); (case hn => repeat (with_reducible first | exact .zero | apply Nth.succ)); (case hc => kernel_rfl); (case hy => first | exact y_loadA S | exact y_load S | exact y_ldE (h0.step S.chg) | exact y_ldE (h2.step S.chg) | exact y_ldEA (hE.step S.chg) | (apply y_idxS <;> first | rfl | omega)); (case' h => simp only [Act.put, List.setIfInBounds_toArray, List.set_cons_zero, List.set_cons_succ]))))
  refine m_G 12 [] (by kernel_rfl) (by repeat (with_reducible first | exact .zero | apply Nth.succ)) ?_
  go_wp2_with ((first | ((with_reducible refine s_box S (h := ?_)); clear S; intro b w S hcN; clear hcN) | ((with_reducible refine s_alloc S (h := ?_)); clear S; intro b w S hcN; clear hcN) | (with_reducible refine s_load S (h := ?_)) | (with_reducible refine s_loadA S (h := ?_)) | ((with_reducible refine s_store S (h := ?_)); clear S; intro w S)))
  refine ⟨.inl rfl, ?_⟩; simp only [Act.put, List.setIfInBounds_toArray, List.set_cons_zero, List.set_cons_succ]
  (refine m_end (by kernel_rfl) ?_; refine (by assumption : ∀ a w, Code.wp _ _ _ a w → _) _ _ ?_)
  go_wp2
  refine s_ret1 S (h := ?_)
  exact ⟨rfl, S.chg⟩
end Go.Proofs.Ytcfialfgkkjlfaa
