/- Tables: contracts of scaled, sum. -/
import Derived.Test.YtcfialfgkkjlfaaG5
set_option linter.unusedSimpArgs false
set_option linter.unusedVariables false
namespace Go.Sg
open Go.Sx
/-- A table of results, each checked. -/
def chkL (b : Bool) (zs : List Frac) : Tb := ⟨zs.map fitV, b || zs.any fun z => !isF z⟩
def chkB (b : Bool) (zs : List Frac) (k : Nat) : Bool := b || (zs.take k).any fun z => !isF z
def chkF (zs : List Frac) (k : Nat) : List Frac := fill (zs.map fitV) k f01
theorem chkB_zero (b : Bool) (zs : List Frac) : chkB b zs 0 = b := by simp [chkB]
theorem chkB_next {b : Bool} {zs : List Frac} {k : Nat} {z : Frac} (h : zs[k]? = some z) : (chkB b zs k || !isF z) = chkB b zs (k + 1) := by
  obtain ⟨hk, rfl⟩ := List.getElem?_eq_some_iff.1 h
  unfold chkB
  rw [take_next hk, List.any_append, Bool.or_assoc]
  simp
theorem chkF_len {zs : List Frac} {k : Nat} (h : k ≤ zs.length) : (chkF zs k).length = zs.length := by unfold chkF; rw [fill_len (by simpa using h)]; simp
theorem chkF_at {zs : List Frac} {k : Nat} (h : k < zs.length) : (chkF zs k)[k]? = some f01 := fill_at (by simpa using h)
theorem chkF_next {zs : List Frac} {k : Nat} {z : Frac} (h : zs[k]? = some z) : (chkF zs k).set k (fitV z) = chkF zs (k + 1) := by
  obtain ⟨hk, rfl⟩ := List.getElem?_eq_some_iff.1 h
  have := fill_set (xs := zs.map fitV) (k := k) (z := f01) (by simpa using hk)
  simpa [chkF] using this
theorem chkL_end (b : Bool) (zs : List Frac) : chkL b zs = ⟨chkF zs zs.length, chkB b zs zs.length⟩ := by
  have : fill (zs.map fitV) (zs.map fitV).length f01 = zs.map fitV := fill_all
  rw [List.length_map] at this
  simp [chkL, chkF, chkB, this]
theorem chkF_new {d n : Nat} {zs : List Frac} (h : zs.length = (allW d n).length) : (newT d n).vals = chkF zs 0 := by unfold chkF; rw [fill_zero]; simp [newT, h]
def scaledT (t : Tb) (a : Frac) : Tb := chkL t.bad (t.vals.map fun b => mulR b a)
def sumT (t u : Tb) : Tb := chkL (t.bad || u.bad) (List.zipWith addR t.vals u.vals)
theorem TOk.chkL {d n : Nat} {b : Bool} {zs : List Frac} (hd : d ≤ 3) (hn : n ≤ 8) (hl : zs.length = (allW d n).length) : TOk d n (chkL b zs) :=
  ⟨hd, hn, by simp [Sg.chkL, hl], fun x hx => by obtain ⟨z, _, rfl⟩ := List.mem_map.1 hx; exact fitV_isF z⟩
theorem TOk.scaled {d n : Nat} {t : Tb} (h : TOk d n t) (a : Frac) : TOk d n (scaledT t a) := TOk.chkL h.hd h.hn (by simp [h.len])
theorem TOk.sum {d n : Nat} {t u : Tb} (h : TOk d n t) (k : TOk d n u) : TOk d n (sumT t u) := TOk.chkL h.hd h.hn (by simp [h.len, k.len])
end Go.Sg
namespace Go.Proofs.Ytcfialfgkkjlfaa
open Go.RowKit Go.Sx Go.Sg
set_option maxRecDepth 100000 in
theorem scaled_ok (p d n : Nat) (v : Value) (t : Tb) (x : Frac) (w0 : World) (hT : TabR w0 p d n v t) (hO : TOk d n t) (hx : isF x = true) :
    Calls Try.prog 186 #[.pointer (some ⟨p, 0, none⟩), .agg #[.int .i64 x.num, .int .i64 x.den]] w0 fun e w' => ∃ b v bs, e = .returned (.pointer (some ⟨b, 0, none⟩)) ∧ St [] w0 w' [tabC b d n v (scaledT t x).bad, tabV v (scaledT t x).vals bs] := by
  have S := St.start w0
  obtain ⟨A, c, rfl, hc1, hc2⟩ := hT.rd.slice
  unfold maxLen at hc2
  have h2 := hT.hv
  have h3 := hT.hb
  have hd3 := hO.hd
  have hn8 := hO.hn
  have hl := allW_len_le hd3 hn8
  have hlen := hO.len
  have hfr := hO.fr
  generalize hzs : (t.vals.map fun b => mulR b x) = zs
  have hzl : zs.length = t.vals.length := by rw [← hzs]; simp
  have hza : ∀ k (h : k < t.vals.length), zs[k]? = some (mulR t.vals[k] x) := fun k h => by rw [← hzs]; simp [h]
  have hT0 : scaledT t x = ⟨chkF zs zs.length, chkB t.bad zs zs.length⟩ := by rw [← chkL_end]; unfold scaledT; rw [hzs]
  rw [hT0]
  have hnv := hid (chkF_new (d := d) (n := n) (zs := zs) (hzl.trans hlen))
  have hfl := hid (chkF_len (zs := zs) (Nat.zero_le _))
  rw [← hlen] at hl
  rw [hzl]
  replace hlen := hid hlen; replace hzl := hid hzl; replace hza := hid hza; replace hfr := hid hfr
  clear hT0 hzs
  generalize hbd : t.bad = bad at *
  go_enter Try.func186, Try.ntmps186
  go_wp2_with (first
    | (go_at_call 167; refine (like_ok _ d n _ t _ (hT.step S.chg) hd3 hn8).mono ?_; rintro e w1 ⟨b2, v2, bs2, rfl, T⟩; rw [hnv.out] at T; have S := S.grow2 T; clear T; obtain ⟨A2, c2, rfl, -, -⟩ := own_slice S (.tail _ (.head _)); rw [hfl.out, hzl.out] at S)
    | ((with_reducible refine gd 14 ?_); refine s_ldE rfl (h3.step S.chg) rfl ?_)
    | ((with_reducible refine gd 20 ?_); refine s_ldE rfl (h2.step S.chg) rfl ?_)
    | ((with_reducible refine s_box S (h := ?_)); clear S; intro b3 w S hcN; clear hcN)
    | ((with_reducible refine s_box S (h := ?_)); clear S; intro b w S hcN; clear hcN) | ((with_reducible refine s_alloc S (h := ?_)); clear S; intro b w S hcN; clear hcN) | (with_reducible refine s_load S (h := ?_)) | (with_reducible refine s_loadA S (h := ?_)) | ((with_reducible refine s_store S (h := ?_)); clear S; intro w S))
  go_loopw [22] (fun i wr => ∃ k : Nat, k ≤ t.vals.length ∧ i = .int .i64 k ∧ St [] w0 wr [tabC b2 d n (.slice A2 t.vals.length c2) (chkB bad zs k), tabV (.slice A2 t.vals.length c2) (chkF zs k) bs2, cel b3 [.int .i64 x.num, .int .i64 x.den] 76]) (fun i _ => t.vals.length - (intOf i).toNat)
  case atStart => exact ⟨0, Nat.zero_le _, rfl, by rw [chkB_zero]; exact S⟩
  case round =>
    clear S
    obtain ⟨k, hk, rfl, S⟩ := hrel
    by_cases hlt : k < t.vals.length
    · obtain ⟨ad2, _, rfl, -, ⟨_, rfl, _⟩, hE2⟩ := hT.rd.getS k _ (List.getElem?_eq_getElem hlt)
      replace hE2 : El _ _ [.int .i64 (t.vals[k]).num, .int .i64 (t.vals[k]).den] := hE2
      obtain ⟨g, -, -, rfl, -, -, -⟩ := own_getS S (.tail _ (.head _)) k _ (chkF_at (by rw [hzl.out]; exact hlt))
      have hz := hid (hza.out k hlt)
      have hfk := hfr.out _ (List.getElem_mem hlt)
      have hkf := hid (show k < (chkF zs k).length by rw [chkF_len (by rw [hzl.out]; exact hk), hzl.out]; exact hlt)
      generalize t.vals[k] = y at *
      go_wp2_with (first
        | (with_reducible refine s_idxS (h := ?_))
        | ((with_reducible refine gd 26 ?_); refine s_ldEA rfl (hE2.step S.chg) (by repeat (with_reducible first | exact Sub.done | apply Sub.here | apply Sub.there)) ?_)
        | ((with_reducible refine s_alloc S (h := ?_)); clear S; intro b4 w S hcN; clear hcN)
        | ((with_reducible refine s_box S (h := ?_)); clear S; intro b w S hcN; clear hcN) | ((with_reducible refine s_alloc S (h := ?_)); clear S; intro b w S hcN; clear hcN) | (with_reducible refine s_load S (h := ?_)) | (with_reducible refine s_loadA S (h := ?_)) | ((with_reducible refine s_store S (h := ?_)); clear S; intro w S))
      refine m_startS 14 [11, 13] [0, 1, 2, 4, 5, 6, 7] S ?_
      clear S; intro w hQ S hcD
      (repeat (first | ((with_reducible apply m_P hQ); (case hn => repeat (with_reducible first | exact .zero | apply Nth.succ)); (case hc => kernel_rfl); (case hy => first | (apply y_idxS <;> first | rfl | omega) | (apply y_quo <;> first | rfl | assumption | omega) | (apply y_pure <;> first | rfl | (intro w'; go_simp; with_reducible rfl))); (case' h => simp only [Act.put, List.setIfInBounds_toArray, List.set_cons_zero, List.set_cons_succ])) | ((with_reducible apply m_R hQ); (case hn => repeat (with_reducible first | exact .zero | apply Nth.succ)); (case hc => kernel_rfl); (case hy => first | exact y_loadA S | exact y_load S | (apply y_idxS <;> first | rfl | omega)); (case' h => simp only [Act.put, List.setIfInBounds_toArray, List.set_cons_zero, List.set_cons_succ]))))
      apply m_join0
      case br =>
        intro hJ
        refine m_G2 3 8 [] [9, 10] (by kernel_rfl) (by repeat (with_reducible first | exact .zero | apply Nth.succ)) (by repeat (with_reducible first | exact .zero | apply Nth.succ)) ?_ ?_
        · go_wp2_with ((first | ((with_reducible refine s_box S (h := ?_)); clear S; intro b w S hcN; clear hcN) | ((with_reducible refine s_alloc S (h := ?_)); clear S; intro b w S hcN; clear hcN) | (with_reducible refine s_load S (h := ?_)) | (with_reducible refine s_loadA S (h := ?_)) | ((with_reducible refine s_store S (h := ?_)); clear S; intro w S)))
          refine ⟨.inr (Chg.refl _ _), ?_⟩; simp only [Act.put, List.setIfInBounds_toArray, List.set_cons_zero, List.set_cons_succ]
          refine m_G 8 [9, 10] (by kernel_rfl) (by repeat (with_reducible first | exact .zero | apply Nth.succ)) ?_
          go_wp2_with (go_at_call 61; refine (times_ok y x _ hfk hx).mono ?_; rintro e w1 ⟨rfl, hcN⟩; have S := S.step hcN)
          refine ⟨.inr hcN, ?_⟩; clear hcN; simp only [Act.put, List.setIfInBounds_toArray, List.set_cons_zero, List.set_cons_succ]
          (repeat (first | ((with_reducible apply m_P hQ); (case hn => repeat (with_reducible first | exact .zero | apply Nth.succ)); (case hc => kernel_rfl); (case hy => first | (apply y_idxS <;> first | rfl | omega) | (apply y_quo <;> first | rfl | assumption | omega) | (apply y_pure <;> first | rfl | (intro w'; go_simp; with_reducible rfl))); (case' h => simp only [Act.put, List.setIfInBounds_toArray, List.set_cons_zero, List.set_cons_succ])) | ((with_reducible apply m_R hQ); (case hn => repeat (with_reducible first | exact .zero | apply Nth.succ)); (case hc => kernel_rfl); (case hy => first | exact y_loadA S | exact y_load S | (apply y_idxS <;> first | rfl | omega)); (case' h => simp only [Act.put, List.setIfInBounds_toArray, List.set_cons_zero, List.set_cons_succ]))))
          refine m_G 11 [12] (by kernel_rfl) (by repeat (with_reducible first | exact .zero | apply Nth.succ)) ?_
          go_wp2_with (go_at_call 143; refine (check_ok _ d n _ _ (isF (mulR y x)) (mulR y x) _ _ (S.piece (.keep (.take (.keep (.keep .nil)))))).mono ?_; rintro e w1 ⟨rfl, T⟩; have S := S.call1 (.keep (.take (.keep (.keep .nil)))) T; clear T)
          refine ⟨.inl rfl, ?_⟩; simp only [Act.put, List.setIfInBounds_toArray, List.set_cons_zero, List.set_cons_succ]
          (repeat (first | ((with_reducible apply m_P hQ); (case hn => repeat (with_reducible first | exact .zero | apply Nth.succ)); (case hc => kernel_rfl); (case hy => first | (apply y_idxS <;> first | rfl | omega) | (apply y_quo <;> first | rfl | assumption | omega) | (apply y_pure <;> first | rfl | (intro w'; go_simp; with_reducible rfl))); (case' h => simp only [Act.put, List.setIfInBounds_toArray, List.set_cons_zero, List.set_cons_succ])) | ((with_reducible apply m_R hQ); (case hn => repeat (with_reducible first | exact .zero | apply Nth.succ)); (case hc => kernel_rfl); (case hy => first | exact y_loadA S | exact y_load S | (apply y_idxS <;> first | rfl | omega)); (case' h => simp only [Act.put, List.setIfInBounds_toArray, List.set_cons_zero, List.set_cons_succ]))))
          refine m_G 13 [] (by kernel_rfl) (by repeat (with_reducible first | exact .zero | apply Nth.succ)) ?_
          go_wp2_with ((with_reducible refine gs 39 ?_); refine s_stW (i := k) (y0 := fitV (mulR y x)) S (.there (.there .here)) rfl (by first | exact At.of | exact At.at_) hkf.out rfl rfl ?_; clear S; intro w2 S)
          refine ⟨.inl rfl, ?_⟩; simp only [Act.put, List.setIfInBounds_toArray, List.set_cons_zero, List.set_cons_succ]
          refine m_end (by kernel_rfl) ?_
          exact hJ _ S
        · go_wp2_with (go_at_call 61; refine (times_ok y x _ hfk hx).mono ?_; rintro e w1 ⟨rfl, hcN⟩; have S := S.step hcN)
          refine ⟨.inr hcN, ?_⟩; clear hcN; simp only [Act.put, List.setIfInBounds_toArray, List.set_cons_zero, List.set_cons_succ]
          (repeat (first | ((with_reducible apply m_P hQ); (case hn => repeat (with_reducible first | exact .zero | apply Nth.succ)); (case hc => kernel_rfl); (case hy => first | (apply y_idxS <;> first | rfl | omega) | (apply y_quo <;> first | rfl | assumption | omega) | (apply y_pure <;> first | rfl | (intro w'; go_simp; with_reducible rfl))); (case' h => simp only [Act.put, List.setIfInBounds_toArray, List.set_cons_zero, List.set_cons_succ])) | ((with_reducible apply m_R hQ); (case hn => repeat (with_reducible first | exact .zero | apply Nth.succ)); (case hc => kernel_rfl); (case hy => first | exact y_loadA S | exact y_load S | (apply y_idxS <;> first | rfl | omega)); (case' h => simp only [Act.put, List.setIfInBounds_toArray, List.set_cons_zero, List.set_cons_succ]))))
          refine m_G2 3 11 [] [3, 12] (by kernel_rfl) (by repeat (with_reducible first | exact .zero | apply Nth.succ)) (by repeat (with_reducible first | exact .zero | apply Nth.succ)) ?_ ?_
          · go_wp2_with ((first | ((with_reducible refine s_box S (h := ?_)); clear S; intro b w S hcN; clear hcN) | ((with_reducible refine s_alloc S (h := ?_)); clear S; intro b w S hcN; clear hcN) | (with_reducible refine s_load S (h := ?_)) | (with_reducible refine s_loadA S (h := ?_)) | ((with_reducible refine s_store S (h := ?_)); clear S; intro w S)))
            refine ⟨.inr (Chg.refl _ _), ?_⟩; simp only [Act.put, List.setIfInBounds_toArray, List.set_cons_zero, List.set_cons_succ]
            refine m_G 11 [12] (by kernel_rfl) (by repeat (with_reducible first | exact .zero | apply Nth.succ)) ?_
            go_wp2_with (go_at_call 143; refine (check_ok _ d n _ _ (isF (mulR y x)) (mulR y x) _ _ (S.piece (.keep (.take (.keep (.keep .nil)))))).mono ?_; rintro e w1 ⟨rfl, T⟩; have S := S.call1 (.keep (.take (.keep (.keep .nil)))) T; clear T)
            refine ⟨.inl rfl, ?_⟩; simp only [Act.put, List.setIfInBounds_toArray, List.set_cons_zero, List.set_cons_succ]
            (repeat (first | ((with_reducible apply m_P hQ); (case hn => repeat (with_reducible first | exact .zero | apply Nth.succ)); (case hc => kernel_rfl); (case hy => first | (apply y_idxS <;> first | rfl | omega) | (apply y_quo <;> first | rfl | assumption | omega) | (apply y_pure <;> first | rfl | (intro w'; go_simp; with_reducible rfl))); (case' h => simp only [Act.put, List.setIfInBounds_toArray, List.set_cons_zero, List.set_cons_succ])) | ((with_reducible apply m_R hQ); (case hn => repeat (with_reducible first | exact .zero | apply Nth.succ)); (case hc => kernel_rfl); (case hy => first | exact y_loadA S | exact y_load S | (apply y_idxS <;> first | rfl | omega)); (case' h => simp only [Act.put, List.setIfInBounds_toArray, List.set_cons_zero, List.set_cons_succ]))))
            refine m_G 13 [] (by kernel_rfl) (by repeat (with_reducible first | exact .zero | apply Nth.succ)) ?_
            go_wp2_with ((with_reducible refine gs 39 ?_); refine s_stW (i := k) (y0 := fitV (mulR y x)) S (.there (.there .here)) rfl (by first | exact At.of | exact At.at_) hkf.out rfl rfl ?_; clear S; intro w2 S)
            refine ⟨.inl rfl, ?_⟩; simp only [Act.put, List.setIfInBounds_toArray, List.set_cons_zero, List.set_cons_succ]
            refine m_end (by kernel_rfl) ?_
            exact hJ _ (S.sel (by repeat (first | exact Sel.nil | (apply Sel.cons (by repeat (first | exact Rem.here | apply Rem.there))))))
          · go_wp2_with (go_at_call 143; refine (check_ok _ d n _ _ (isF (mulR y x)) (mulR y x) _ _ (S.piece (.keep (.take (.keep (.keep .nil)))))).mono ?_; rintro e w1 ⟨rfl, T⟩; have S := S.call1 (.keep (.take (.keep (.keep .nil)))) T; clear T)
            refine ⟨.inl rfl, ?_⟩; simp only [Act.put, List.setIfInBounds_toArray, List.set_cons_zero, List.set_cons_succ]
            (repeat (first | ((with_reducible apply m_P hQ); (case hn => repeat (with_reducible first | exact .zero | apply Nth.succ)); (case hc => kernel_rfl); (case hy => first | (apply y_idxS <;> first | rfl | omega) | (apply y_quo <;> first | rfl | assumption | omega) | (apply y_pure <;> first | rfl | (intro w'; go_simp; with_reducible rfl))); (case' h => simp only [Act.put, List.setIfInBounds_toArray, List.set_cons_zero, List.set_cons_succ])) | ((with_reducible apply m_R hQ); (case hn => repeat (with_reducible first | exact .zero | apply Nth.succ)); (case hc => kernel_rfl); (case hy => first | exact y_loadA S | exact y_load S | (apply y_idxS <;> first | rfl | omega)); (case' h => simp only [Act.put, List.setIfInBounds_toArray, List.set_cons_zero, List.set_cons_succ]))))
            refine m_G 13 [] (by kernel_rfl) (by repeat (with_reducible first | exact .zero | apply Nth.succ)) ?_
            go_wp2_with ((with_reducible refine gs 39 ?_); refine s_stW (i := k) (y0 := fitV (mulR y x)) S (.there (.there .here)) rfl (by first | exact At.of | exact At.at_) hkf.out rfl rfl ?_; clear S; intro w2 S)
            refine ⟨.inl rfl, ?_⟩; simp only [Act.put, List.setIfInBounds_toArray, List.set_cons_zero, List.set_cons_succ]
            refine m_end (by kernel_rfl) ?_
            exact hJ _ (S.sel (by repeat (first | exact Sel.nil | (apply Sel.cons (by repeat (first | exact Rem.here | apply Rem.there))))))
      case' cont =>
        clear hQ
        intro w S
        refine (by assumption : ∀ a w, Code.wp _ _ _ a w → _) _ _ ?_
      go_wp2
      go_roundw
      case rel =>
        refine ⟨k + 1, hlt, by go_num, ?_⟩
        rw [chkB_next hz.out, chkF_next hz.out] at S
        exact S.sel (by repeat (first | exact Sel.nil | (apply Sel.cons (by repeat (first | exact Rem.here | apply Rem.there)))))
      case measure => simp [intOf]; omega
    · obtain rfl : k = t.vals.length := by omega
      go_wp2
      refine s_ret1 S (h := ?_)
      exact ⟨_, _, bs2, rfl, S.sel (by repeat (first | exact Sel.nil | (apply Sel.cons (by repeat (first | exact Rem.here | apply Rem.there)))))⟩
end Go.Proofs.Ytcfialfgkkjlfaa
