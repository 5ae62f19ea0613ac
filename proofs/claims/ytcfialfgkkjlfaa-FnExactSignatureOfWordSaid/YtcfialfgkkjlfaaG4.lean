/- Tables: contracts of add, addTimes. -/
import Derived.Test.YtcfialfgkkjlfaaG3
set_option linter.unusedSimpArgs false
set_option linter.unusedVariables false
namespace Go.Sg
open Go.Sx
def addT (t : Tb) (k : Nat) (a : Frac) : Tb := ⟨t.vals.set k (fitV (addR (t.vals.getD k f01) a)), t.bad || !isF (addR (t.vals.getD k f01) a)⟩
def addTimesT (t : Tb) (k : Nat) (a b : Frac) : Tb := addT ⟨t.vals, t.bad || !isF (mulR a b)⟩ k (fitV (mulR a b))
theorem isF_f01 : isF f01 = true := by decide
theorem getD_isF {l : List Frac} (h : ∀ x ∈ l, isF x = true) (k : Nat) : isF (l.getD k f01) = true := by
  by_cases hk : k < l.length
  · rw [List.getD_eq_getElem?_getD, List.getElem?_eq_getElem hk]
    exact h _ (List.getElem_mem hk)
  · rw [List.getD_eq_getElem?_getD, List.getElem?_eq_none (by omega)]
    exact isF_f01
theorem set_isF {l : List Frac} (h : ∀ x ∈ l, isF x = true) (k : Nat) {a : Frac} (ha : isF a = true) : ∀ x ∈ l.set k a, isF x = true := fun x hx => by
  rcases List.mem_or_eq_of_mem_set hx with hx | rfl
  · exact h x hx
  · exact ha
theorem TOk.add {d n : Nat} {t : Tb} (h : TOk d n t) (k : Nat) (a : Frac) : TOk d n (addT t k a) := ⟨h.hd, h.hn, by simp [addT, h.len], set_isF h.fr k (fitV_isF _)⟩
theorem TOk.addTimes {d n : Nat} {t : Tb} (h : TOk d n t) (k : Nat) (a b : Frac) : TOk d n (addTimesT t k a b) := TOk.add (t := ⟨t.vals, t.bad || !isF (mulR a b)⟩) ⟨h.hd, h.hn, h.len, h.fr⟩ k _
theorem TOk.new {d n : Nat} (hd : d ≤ 3) (hn : n ≤ 8) : TOk d n (newT d n) := ⟨hd, hn, by simp [newT], fun x hx => by rw [(List.mem_replicate.1 hx).2]; exact isF_f01⟩
end Go.Sg
namespace Go.Proofs.Ytcfialfgkkjlfaa
open Go.RowKit Go.Sx Go.Sg
set_option maxRecDepth 100000 in
theorem add_ok (b d n : Nat) (v : Value) (bs M : List Nat) (t : Tb) (s : ByteArray) (a : Frac) (w0 : World) (S : St M w0 w0 [tabC b d n v t.bad, tabV v t.vals bs]) (hO : TOk d n t) (hs : s.size ≤ n) (hw : lets d s = true) (hk : num d s < t.vals.length) (ha : isF a = true) :
    Calls Try.prog 86 #[.pointer (some ⟨b, 0, none⟩), .string s, .agg #[.int .i64 a.num, .int .i64 a.den]] w0 fun e w' => e = .returned (.tuple #[]) ∧ St M w0 w' [tabC b d n v (addT t (num d s) a).bad, tabV v (addT t (num d s) a).vals bs] := by
  obtain ⟨A, c, rfl, hc1, hc2⟩ := own_slice S (.tail _ (.head _))
  unfold maxLen at hc2
  have hx := getD_isF hO.fr (num d s)
  obtain ⟨g, bx, cy, rfl, -, ⟨-, rfl⟩, hE⟩ := own_getS S (.tail _ (.head _)) (num d s) _ (List.getElem?_eq_getElem hk)
  have e0 : t.vals.getD (num d s) f01 = t.vals[num d s] := by simp [hk]
  have e1 : addT t (num d s) a = ⟨t.vals.set (num d s) (fitV (addR (t.vals[num d s]) a)), t.bad || !isF (addR (t.vals[num d s]) a)⟩ := by unfold addT; rw [e0]
  rw [e0] at hx
  rw [e1]
  clear e0 e1
  have hn8 := hO.hn
  have hd3 := hO.hd
  clear hO
  obtain ⟨vals, bad⟩ := t
  simp only at *
  generalize hxv : vals[num d s] = x at *
  replace hxv := hid hxv
  clear hE
  replace hk : num d s < vals.length := hk
  go_enter Try.func86, Try.ntmps86
  go_wp2_with (first
    | ((with_reducible refine s_box S (h := ?_)); clear S; intro b w S hcN; clear hcN) | ((with_reducible refine s_alloc S (h := ?_)); clear S; intro b w S hcN; clear hcN) | (with_reducible refine s_load S (h := ?_)) | (with_reducible refine s_loadA S (h := ?_)) | ((with_reducible refine s_store S (h := ?_)); clear S; intro w S)
    | (go_at_call 142; refine (number_ok d s _ hd3 (by omega) hw).mono ?_; rintro e w1 ⟨rfl, hc⟩; have S := S.step hc; clear hc))
  obtain ⟨_, bx, cy, hg, -, ⟨-, rfl⟩, hE⟩ := own_getS S (.tail _ (.tail _ (.head _))) (num d s) _ (List.getElem?_eq_getElem hk)
  cases hg
  replace hE : El _ _ [.int .i64 vals[num d s].num, .int .i64 vals[num d s].den] := hE
  rw [hxv.out] at hE
  refine m_startS 20 [17, 19] [0, 1, 2, 4, 5, 6, 7, 8, 9, 10, 11, 12, 13] S ?_
  clear S; intro w hQ S hcD
  replace hE := hE.step hcD
  (repeat (first | ((with_reducible apply m_P hQ); (case hn => repeat (with_reducible first | exact .zero | apply Nth.succ)); (case hc => kernel_rfl); (case hy => first | exact y_ldEA hE | (apply y_idxS <;> first | rfl | omega) | (apply y_quo <;> first | rfl | assumption | omega) | (apply y_pure <;> first | rfl | (intro w'; go_simp; with_reducible rfl))); (case' h => simp only [Act.put, List.setIfInBounds_toArray, List.set_cons_zero, List.set_cons_succ])) | ((with_reducible apply m_R hQ); (case hn => repeat (with_reducible first | exact .zero | apply Nth.succ)); (case hc => kernel_rfl); (case hy => first | exact y_loadA S | exact y_load S | exact y_ldEA hE | (apply y_idxS <;> first | rfl | omega)); (case' h => simp only [Act.put, List.setIfInBounds_toArray, List.set_cons_zero, List.set_cons_succ]))))
  refine m_G2 3 14 [] [15, 16] (by kernel_rfl) (by repeat (with_reducible first | exact .zero | apply Nth.succ)) (by repeat (with_reducible first | exact .zero | apply Nth.succ)) ?_ ?_
  · go_wp2_with ((first | ((with_reducible refine s_box S (h := ?_)); clear S; intro b w S hcN; clear hcN) | ((with_reducible refine s_alloc S (h := ?_)); clear S; intro b w S hcN; clear hcN) | (with_reducible refine s_load S (h := ?_)) | (with_reducible refine s_loadA S (h := ?_)) | ((with_reducible refine s_store S (h := ?_)); clear S; intro w S)))
    refine ⟨.inr (Chg.refl _ _), ?_⟩; simp only [Act.put, List.setIfInBounds_toArray, List.set_cons_zero, List.set_cons_succ]
    refine m_G 14 [15, 16] (by kernel_rfl) (by repeat (with_reducible first | exact .zero | apply Nth.succ)) ?_
    go_wp2_with (go_at_call 62; refine (plus_ok x a _ hx ha).mono ?_; rintro e w1 ⟨rfl, hcN⟩; have S := S.step hcN)
    refine ⟨.inr hcN, ?_⟩; clear hcN; simp only [Act.put, List.setIfInBounds_toArray, List.set_cons_zero, List.set_cons_succ]
    (repeat (first | ((with_reducible apply m_P hQ); (case hn => repeat (with_reducible first | exact .zero | apply Nth.succ)); (case hc => kernel_rfl); (case hy => first | exact y_ldEA hE | (apply y_idxS <;> first | rfl | omega) | (apply y_quo <;> first | rfl | assumption | omega) | (apply y_pure <;> first | rfl | (intro w'; go_simp; with_reducible rfl))); (case' h => simp only [Act.put, List.setIfInBounds_toArray, List.set_cons_zero, List.set_cons_succ])) | ((with_reducible apply m_R hQ); (case hn => repeat (with_reducible first | exact .zero | apply Nth.succ)); (case hc => kernel_rfl); (case hy => first | exact y_loadA S | exact y_load S | exact y_ldEA hE | (apply y_idxS <;> first | rfl | omega)); (case' h => simp only [Act.put, List.setIfInBounds_toArray, List.set_cons_zero, List.set_cons_succ]))))
    refine m_G 17 [18] (by kernel_rfl) (by repeat (with_reducible first | exact .zero | apply Nth.succ)) ?_
    go_wp2_with (go_at_call 143; refine (check_ok _ d n _ bad (isF (addR x a)) (addR x a) _ _ (S.piece (.keep (.take (.keep .nil))))).mono ?_; rintro e w1 ⟨rfl, T⟩; have S := S.call1 (.keep (.take (.keep .nil))) T; clear T)
    refine ⟨.inl rfl, ?_⟩; simp only [Act.put, List.setIfInBounds_toArray, List.set_cons_zero, List.set_cons_succ]
    (repeat (first | ((with_reducible apply m_P hQ); (case hn => repeat (with_reducible first | exact .zero | apply Nth.succ)); (case hc => kernel_rfl); (case hy => first | exact y_ldEA hE | (apply y_idxS <;> first | rfl | omega) | (apply y_quo <;> first | rfl | assumption | omega) | (apply y_pure <;> first | rfl | (intro w'; go_simp; with_reducible rfl))); (case' h => simp only [Act.put, List.setIfInBounds_toArray, List.set_cons_zero, List.set_cons_succ])) | ((with_reducible apply m_R hQ); (case hn => repeat (with_reducible first | exact .zero | apply Nth.succ)); (case hc => kernel_rfl); (case hy => first | exact y_loadA S | exact y_load S | exact y_ldEA hE | (apply y_idxS <;> first | rfl | omega)); (case' h => simp only [Act.put, List.setIfInBounds_toArray, List.set_cons_zero, List.set_cons_succ]))))
    refine m_G 19 [] (by kernel_rfl) (by repeat (with_reducible first | exact .zero | apply Nth.succ)) ?_
    go_wp2_with ((with_reducible refine gs 31 ?_); refine s_stW (i := num d s) (y0 := fitV (addR x a)) S (.there (.there .here)) rfl (by first | exact At.of | exact At.at_) hk rfl rfl ?_; clear S; intro w2 S)
    refine ⟨.inl rfl, ?_⟩; simp only [Act.put, List.setIfInBounds_toArray, List.set_cons_zero, List.set_cons_succ]
    refine m_end (by kernel_rfl) ?_
    exact s_end0 (h := ⟨rfl, S.sel (by repeat (first | exact Sel.nil | (apply Sel.cons (by repeat (first | exact Rem.here | apply Rem.there)))))⟩)
  · go_wp2_with (go_at_call 62; refine (plus_ok x a _ hx ha).mono ?_; rintro e w1 ⟨rfl, hcN⟩; have S := S.step hcN)
    refine ⟨.inr hcN, ?_⟩; clear hcN; simp only [Act.put, List.setIfInBounds_toArray, List.set_cons_zero, List.set_cons_succ]
    (repeat (first | ((with_reducible apply m_P hQ); (case hn => repeat (with_reducible first | exact .zero | apply Nth.succ)); (case hc => kernel_rfl); (case hy => first | exact y_ldEA hE | (apply y_idxS <;> first | rfl | omega) | (apply y_quo <;> first | rfl | assumption | omega) | (apply y_pure <;> first | rfl | (intro w'; go_simp; with_reducible rfl))); (case' h => simp only [Act.put, List.setIfInBounds_toArray, List.set_cons_zero, List.set_cons_succ])) | ((with_reducible apply m_R hQ); (case hn => repeat (with_reducible first | exact .zero | apply Nth.succ)); (case hc => kernel_rfl); (case hy => first | exact y_loadA S | exact y_load S | exact y_ldEA hE | (apply y_idxS <;> first | rfl | omega)); (case' h => simp only [Act.put, List.setIfInBounds_toArray, List.set_cons_zero, List.set_cons_succ]))))
    refine m_G2 3 17 [] [3, 18] (by kernel_rfl) (by repeat (with_reducible first | exact .zero | apply Nth.succ)) (by repeat (with_reducible first | exact .zero | apply Nth.succ)) ?_ ?_
    · go_wp2_with ((first | ((with_reducible refine s_box S (h := ?_)); clear S; intro b w S hcN; clear hcN) | ((with_reducible refine s_alloc S (h := ?_)); clear S; intro b w S hcN; clear hcN) | (with_reducible refine s_load S (h := ?_)) | (with_reducible refine s_loadA S (h := ?_)) | ((with_reducible refine s_store S (h := ?_)); clear S; intro w S)))
      refine ⟨.inr (Chg.refl _ _), ?_⟩; simp only [Act.put, List.setIfInBounds_toArray, List.set_cons_zero, List.set_cons_succ]
      refine m_G 17 [18] (by kernel_rfl) (by repeat (with_reducible first | exact .zero | apply Nth.succ)) ?_
      go_wp2_with (go_at_call 143; refine (check_ok _ d n _ bad (isF (addR x a)) (addR x a) _ _ (S.piece (.keep (.take (.keep .nil))))).mono ?_; rintro e w1 ⟨rfl, T⟩; have S := S.call1 (.keep (.take (.keep .nil))) T; clear T)
      refine ⟨.inl rfl, ?_⟩; simp only [Act.put, List.setIfInBounds_toArray, List.set_cons_zero, List.set_cons_succ]
      (repeat (first | ((with_reducible apply m_P hQ); (case hn => repeat (with_reducible first | exact .zero | apply Nth.succ)); (case hc => kernel_rfl); (case hy => first | exact y_ldEA hE | (apply y_idxS <;> first | rfl | omega) | (apply y_quo <;> first | rfl | assumption | omega) | (apply y_pure <;> first | rfl | (intro w'; go_simp; with_reducible rfl))); (case' h => simp only [Act.put, List.setIfInBounds_toArray, List.set_cons_zero, List.set_cons_succ])) | ((with_reducible apply m_R hQ); (case hn => repeat (with_reducible first | exact .zero | apply Nth.succ)); (case hc => kernel_rfl); (case hy => first | exact y_loadA S | exact y_load S | exact y_ldEA hE | (apply y_idxS <;> first | rfl | omega)); (case' h => simp only [Act.put, List.setIfInBounds_toArray, List.set_cons_zero, List.set_cons_succ]))))
      refine m_G 19 [] (by kernel_rfl) (by repeat (with_reducible first | exact .zero | apply Nth.succ)) ?_
      go_wp2_with ((with_reducible refine gs 31 ?_); refine s_stW (i := num d s) (y0 := fitV (addR x a)) S (.there (.there .here)) rfl (by first | exact At.of | exact At.at_) hk rfl rfl ?_; clear S; intro w2 S)
      refine ⟨.inl rfl, ?_⟩; simp only [Act.put, List.setIfInBounds_toArray, List.set_cons_zero, List.set_cons_succ]
      refine m_end (by kernel_rfl) ?_
      exact s_end0 (h := ⟨rfl, S.sel (by repeat (first | exact Sel.nil | (apply Sel.cons (by repeat (first | exact Rem.here | apply Rem.there)))))⟩)
    · go_wp2_with (go_at_call 143; refine (check_ok _ d n _ bad (isF (addR x a)) (addR x a) _ _ (S.piece (.keep (.take (.keep .nil))))).mono ?_; rintro e w1 ⟨rfl, T⟩; have S := S.call1 (.keep (.take (.keep .nil))) T; clear T)
      refine ⟨.inl rfl, ?_⟩; simp only [Act.put, List.setIfInBounds_toArray, List.set_cons_zero, List.set_cons_succ]
      (repeat (first | ((with_reducible apply m_P hQ); (case hn => repeat (with_reducible first | exact .zero | apply Nth.succ)); (case hc => kernel_rfl); (case hy => first | exact y_ldEA hE | (apply y_idxS <;> first | rfl | omega) | (apply y_quo <;> first | rfl | assumption | omega) | (apply y_pure <;> first | rfl | (intro w'; go_simp; with_reducible rfl))); (case' h => simp only [Act.put, List.setIfInBounds_toArray, List.set_cons_zero, List.set_cons_succ])) | ((with_reducible apply m_R hQ); (case hn => repeat (with_reducible first | exact .zero | apply Nth.succ)); (case hc => kernel_rfl); (case hy => first | exact y_loadA S | exact y_load S | exact y_ldEA hE | (apply y_idxS <;> first | rfl | omega)); (case' h => simp only [Act.put, List.setIfInBounds_toArray, List.set_cons_zero, List.set_cons_succ]))))
      refine m_G 19 [] (by kernel_rfl) (by repeat (with_reducible first | exact .zero | apply Nth.succ)) ?_
      go_wp2_with ((with_reducible refine gs 31 ?_); refine s_stW (i := num d s) (y0 := fitV (addR x a)) S (.there (.there .here)) rfl (by first | exact At.of | exact At.at_) hk rfl rfl ?_; clear S; intro w2 S)
      refine ⟨.inl rfl, ?_⟩; simp only [Act.put, List.setIfInBounds_toArray, List.set_cons_zero, List.set_cons_succ]
      refine m_end (by kernel_rfl) ?_
      exact s_end0 (h := ⟨rfl, S.sel (by repeat (first | exact Sel.nil | (apply Sel.cons (by repeat (first | exact Rem.here | apply Rem.there)))))⟩)
set_option maxRecDepth 100000 in
theorem addTimes_ok (b d n : Nat) (v : Value) (bs M : List Nat) (t : Tb) (s : ByteArray) (x y : Frac) (w0 : World) (S : St M w0 w0 [tabC b d n v t.bad, tabV v t.vals bs]) (hO : TOk d n t) (hs : s.size ≤ n) (hw : lets d s = true) (hk : num d s < t.vals.length) (hx : isF x = true) (hy : isF y = true) :
    Calls Try.prog 170 #[.pointer (some ⟨b, 0, none⟩), .string s, .agg #[.int .i64 x.num, .int .i64 x.den], .agg #[.int .i64 y.num, .int .i64 y.den]] w0 fun e w' => e = .returned (.tuple #[]) ∧ St M w0 w' [tabC b d n v (addTimesT t (num d s) x y).bad, tabV v (addTimesT t (num d s) x y).vals bs] := by
  have hO2 : TOk d n ⟨t.vals, t.bad || !isF (mulR x y)⟩ := ⟨hO.hd, hO.hn, hO.len, hO.fr⟩
  go_enter Try.func170, Try.ntmps170
  go_wp2_with (first
    | ((with_reducible refine s_box S (h := ?_)); clear S; intro b w S hcN; clear hcN) | ((with_reducible refine s_alloc S (h := ?_)); clear S; intro b w S hcN; clear hcN) | (with_reducible refine s_load S (h := ?_)) | (with_reducible refine s_loadA S (h := ?_)) | ((with_reducible refine s_store S (h := ?_)); clear S; intro w S)
    | (go_at_call 61; refine (times_ok x y _ hx hy).mono ?_; rintro e w1 ⟨rfl, hc⟩; have S := S.step hc; clear hc)
    | (go_at_call 143; refine (check_ok _ d n _ t.bad (isF (mulR x y)) (mulR x y) _ _ (S.piece (.keep (.keep (.take (.keep .nil)))))).mono ?_; rintro e w1 ⟨rfl, T⟩; have S := S.call1 (.keep (.keep (.take (.keep .nil)))) T; clear T)
    | (go_at_call 86; refine (add_ok _ d n v _ _ ⟨t.vals, t.bad || !isF (mulR x y)⟩ s (fitV (mulR x y)) _ (S.piece (.take (.keep (.keep (.take .nil))))) hO2 hs hw hk (fitV_isF _)).mono ?_; rintro e w1 ⟨rfl, T⟩; have S := S.call2 (.take (.keep (.keep (.take .nil)))) T; clear T))
  exact s_end0 (h := ⟨rfl, S.sel (by repeat (first | exact Sel.nil | (apply Sel.cons (by repeat (first | exact Rem.here | apply Rem.there)))))⟩)
end Go.Proofs.Ytcfialfgkkjlfaa
