/- Contracts: closures over fractions, matrices of fractions. -/
import Derived.Test.YtcfialfgkkjlfaaC5
set_option linter.unusedSimpArgs false
set_option linter.unusedVariables false
namespace Go.Proofs.Ytcfialfgkkjlfaa
open Go.RowKit Go.Sx Go.Sg
theorem areF1_ok (x : Frac) (w : World) : Calls Try.prog 162 #[.agg #[.int .i64 x.num, .int .i64 x.den]] w fun e w' => e = .returned (.bool (!isF x)) ∧ Chg [] w w' := by
  have S := St.start w
  go_enter Try.func162, Try.ntmps162
  go_wp2_with (first
   | ((with_reducible refine s_box S (h := ?_)); clear S; intro b w S hcN; clear hcN) | ((with_reducible refine s_alloc S (h := ?_)); clear S; intro b w S hcN; clear hcN) | (with_reducible refine s_load S (h := ?_)) | (with_reducible refine s_loadA S (h := ?_)) | ((with_reducible refine s_store S (h := ?_)); clear S; intro w S)
   | (go_at_call 163; refine (IsFraction_ok _ _ _).mono ?_; rintro e w1 ⟨rfl, hc⟩; have S := S.step hc; clear hc))
  refine s_ret1 S (h := ?_)
  exact ⟨rfl, S.chg⟩
set_option maxRecDepth 100000 in
/-- slices.IndexFunc and ContainsFunc with one closure: whether there is an element that it reports. -/
theorem ixF_ok  (xs : List (Frac)) (v : Value) (w : World) (hR : Rd (sl 76 dFrac) w xs [v])  :
    Calls Try.prog 177 #[v, .func (.func 162) #[] #[]] w fun e w' => ∃ r : Int, e = .returned (.int .i64 r) ∧ (decide (0 ≤ r) = xs.any (fun x => !isF x)) ∧ -1 ≤ r ∧ Chg [] w w' := by
  have S := St.start w
  obtain ⟨A, c, rfl, hc1, hc2⟩ := hR.slice
  unfold maxLen at hc2
  go_enter Try.func177, Try.ntmps177
  go_wp2
  go_loopw [8] (fun i wr => ∃ k : Nat, k ≤ xs.length ∧ i = .int .i64 k ∧ Hid ((xs.take k).any (fun x => !isF x) = false) ∧ St [] w wr []) (fun i _ => xs.length - (intOf i).toNat)
  case atStart => exact ⟨0, Nat.zero_le _, rfl, hid rfl, S⟩
  case round =>
    clear S
    obtain ⟨k, hk, rfl, hp, S⟩ := hrel
    by_cases hlt : k < xs.length
    · obtain ⟨ad, cy, rfl, -, hRi, hE⟩ := (S.rd hR).getS k _ (List.getElem?_eq_getElem hlt)
      obtain ⟨_, rfl, _⟩ := hRi
      replace hE : El _ _ [.int .i64 (xs[k]).num, .int .i64 (xs[k]).den] := hE
      go_wp2_with (first
        | (with_reducible refine s_idxS (h := ?_))
        | ((with_reducible refine gd 15 ?_); refine s_ldEA rfl hE (by repeat (with_reducible first | exact Sub.done | apply Sub.here | apply Sub.there)) ?_)
        | (go_at_call 162; refine (areF1_ok xs[k] _).mono ?_; rintro e w1 ⟨rfl, hc⟩; have S := S.step hc; clear hc))
      · refine s_ret1 S (h := ?_)
        refine ⟨k, rfl, ?_, by omega, S.chg⟩
        rw [any_at hlt (by assumption)]
        simp
      · go_roundw
        case rel => exact ⟨k + 1, hlt, by go_num, hid (any_next hlt hp.out (by assumption)), S⟩
        case measure => simp [intOf]; omega
    · obtain rfl : k = xs.length := by omega
      go_wp2
      refine s_ret1 S (h := ?_)
      refine ⟨-1, rfl, ?_, by omega, S.chg⟩
      have h := hp.out
      rw [List.take_length] at h
      rw [h]
      decide
theorem hasF_ok  (xs : List (Frac)) (v : Value) (w : World) (hR : Rd (sl 76 dFrac) w xs [v])  :
    Calls Try.prog 161 #[v, .func (.func 162) #[] #[]] w fun e w' => e = .returned (.bool (xs.any (fun x => !isF x))) ∧ Chg [] w w' := by
  have S := St.start w
  go_enter Try.func161, Try.ntmps161
  go_wp2_with (go_at_call 177; refine (ixF_ok  xs v _ (S.rd hR) ).mono ?_; rintro e w1 ⟨r, rfl, hr, hr1, hc⟩; have S := S.step hc; clear hc)
  refine s_ret1 S (h := ?_)
  exact ⟨rfl, S.chg⟩

theorem areFractions_ok (xs : List Frac) (v : Value) (w : World) (hR : Rd (sl 76 dFrac) w xs [v]) :
    Calls Try.prog 117 #[v] w fun e w' => e = .returned (.bool (xs.all isF)) ∧ Chg [] w w' := by
  have S := St.start w
  go_enter Try.func117, Try.ntmps117
  go_wp2_with (go_at_call 161; refine (hasF_ok xs v _ (S.rd hR)).mono ?_; rintro e w1 ⟨rfl, hc⟩; have S := S.step hc; clear hc)
  refine s_ret1 S (h := ?_)
  refine ⟨?_, S.chg⟩
  show Ending.returned (.bool (!xs.any fun x => !isF x)) = _
  rw [List.all_eq_not_any_not]

/-- Whether a row has not n fractions. -/
def badRow (n : Int) (r : List Frac) : Bool := !(decide ((r.length : Int) = n) && r.all isF)
set_option maxRecDepth 100000 in
theorem isFM1_ok (x : List Frac) (n : Int) (b : Nat) (v : Value) (w : World) (hR : Rd (sl 76 dFrac) w x [v]) (hn : El w ⟨b, 0, none⟩ [.int .i64 n]) : Calls Try.prog 116 #[v, .pointer (some ⟨b, 0, none⟩)] w fun e w' => e = .returned (.bool (badRow n x)) ∧ Chg [] w w' := by
  have S := St.start w
  obtain ⟨A, c, rfl, hc1, hc2⟩ := hR.slice
  unfold maxLen at hc2
  go_enter Try.func116, Try.ntmps116
  go_wp2_with (first
   | ((with_reducible refine gd 6 ?_); refine s_ldE rfl hn rfl ?_)
   | (go_at_call 117; refine (areFractions_ok x _ _ (S.rd hR)).mono ?_; rintro e w1 ⟨rfl, hc⟩; have S := S.step hc; clear hc))
  all_goals refine s_ret1 S (h := ?_)
  all_goals refine ⟨?_, S.chg⟩
  all_goals simp [badRow, *]
set_option maxRecDepth 100000 in
/-- slices.IndexFunc and ContainsFunc with one closure: whether there is an element that it reports. -/
theorem ixM_ok (n : Int) (b : Nat) (xs : List (List Frac)) (v : Value) (w : World) (hR : Rd (sl 84 (sl 76 dFrac)) w xs [v])  (hn : El w ⟨b, 0, none⟩ [.int .i64 n]) :
    Calls Try.prog 160 #[v, .func (.func 116) #[] #[.pointer (some ⟨b, 0, none⟩)]] w fun e w' => ∃ r : Int, e = .returned (.int .i64 r) ∧ (decide (0 ≤ r) = xs.any (badRow n)) ∧ -1 ≤ r ∧ Chg [] w w' := by
  have S := St.start w
  obtain ⟨A, c, rfl, hc1, hc2⟩ := hR.slice
  unfold maxLen at hc2
  go_enter Try.func160, Try.ntmps160
  go_wp2
  go_loopw [8] (fun i wr => ∃ k : Nat, k ≤ xs.length ∧ i = .int .i64 k ∧ Hid ((xs.take k).any (badRow n) = false) ∧ St [] w wr []) (fun i _ => xs.length - (intOf i).toNat)
  case atStart => exact ⟨0, Nat.zero_le _, rfl, hid rfl, S⟩
  case round =>
    clear S
    obtain ⟨k, hk, rfl, hp, S⟩ := hrel
    by_cases hlt : k < xs.length
    · obtain ⟨ad, cy, rfl, -, hRi, hE⟩ := (S.rd hR).getS k _ (List.getElem?_eq_getElem hlt)
      obtain ⟨v', rfl⟩ := sl_one hRi
      have hn2 := hn.step S.chg
      go_wp2_with (first
        | (with_reducible refine s_idxS (h := ?_))
        | ((with_reducible refine gd 15 ?_); refine s_ldE rfl hE rfl ?_)
        | (go_at_call 116; refine (isFM1_ok xs[k] n b _ _ hRi hn2).mono ?_; rintro e w1 ⟨rfl, hc⟩; have S := S.step hc; clear hc))
      · refine s_ret1 S (h := ?_)
        refine ⟨k, rfl, ?_, by omega, S.chg⟩
        rw [any_at hlt (by assumption)]
        simp
      · go_roundw
        case rel => exact ⟨k + 1, hlt, by go_num, hid (any_next hlt hp.out (by assumption)), S⟩
        case measure => simp [intOf]; omega
    · obtain rfl : k = xs.length := by omega
      go_wp2
      refine s_ret1 S (h := ?_)
      refine ⟨-1, rfl, ?_, by omega, S.chg⟩
      have h := hp.out
      rw [List.take_length] at h
      rw [h]
      decide
theorem hasM_ok (n : Int) (b : Nat) (xs : List (List Frac)) (v : Value) (w : World) (hR : Rd (sl 84 (sl 76 dFrac)) w xs [v])  (hn : El w ⟨b, 0, none⟩ [.int .i64 n]) :
    Calls Try.prog 115 #[v, .func (.func 116) #[] #[.pointer (some ⟨b, 0, none⟩)]] w fun e w' => e = .returned (.bool (xs.any (badRow n))) ∧ Chg [] w w' := by
  have S := St.start w
  go_enter Try.func115, Try.ntmps115
  go_wp2_with (go_at_call 160; refine (ixM_ok n b xs v _ (S.rd hR)  (hn.step S.chg)).mono ?_; rintro e w1 ⟨r, rfl, hr, hr1, hc⟩; have S := S.step hc; clear hc)
  refine s_ret1 S (h := ?_)
  exact ⟨rfl, S.chg⟩

/-- Whether a matrix has n rows of n fractions, n from 1 to 6. -/
def sqF (n : Int) (m : List (List Frac)) : Bool := inB n 1 6 && (decide ((m.length : Int) = n) && !m.any (badRow n))
set_option maxRecDepth 100000 in
theorem isFractionMatrix_ok (m : List (List Frac)) (n : Int) (v : Value) (w : World) (hR : Rd (sl 84 (sl 76 dFrac)) w m [v]) :
    Calls Try.prog 59 #[v, .int .i64 n] w fun e w' => e = .returned (.bool (sqF n m)) ∧ Chg [] w w' := by
  have S := St.start w
  obtain ⟨A, c, rfl, hc1, hc2⟩ := hR.slice
  unfold maxLen at hc2
  go_enter Try.func59, Try.ntmps59
  go_wp2_with (first
   | ((with_reducible refine s_box S (h := ?_)); clear S; intro b w S hcN; clear hcN) | ((with_reducible refine s_alloc S (h := ?_)); clear S; intro b w S hcN; clear hcN) | (with_reducible refine s_load S (h := ?_)) | (with_reducible refine s_loadA S (h := ?_)) | ((with_reducible refine s_store S (h := ?_)); clear S; intro w S)
   | (go_at_call 95; refine (within_ok _ _ _ _).mono ?_; rintro e w1 ⟨rfl, hc⟩; have S := S.step hc; clear hc)
   | (go_at_call 115; refine (hasM_ok n _ m _ _ (S.rd hR) (El.of_cel S (.head _))).mono ?_; rintro e w1 ⟨rfl, hc⟩; have S := S.step hc; clear hc))
  all_goals refine s_ret1 S (h := ?_)
  all_goals refine ⟨?_, S.chg⟩
  all_goals simp [sqF, *]
set_option maxRecDepth 100000 in
theorem fractions_ok (n : Nat) (w : World) (hn0 : 0 < n) (hn1 : n ≤ 6) :
    Calls Try.prog 60 #[.int .i64 n] w fun e w' => ∃ v' bs, e = .returned v' ∧ St [] w w' [own 84 (sl 76 dFrac) v' (List.replicate n (List.replicate n ⟨0, 1⟩)) bs] := by
  have S := St.start w
  go_enter Try.func60, Try.ntmps60
  go_wp2_with (first
   | ((with_reducible refine gd 6 ?_); refine s_make (m := n) (d := sl 76 dFrac) (x0 := []) S rfl (by decide) rfl rfl (fun _ => slO_nil) (by omega) (by unfold maxLen; omega) ?_; clear S; intro b w1 S))
  go_loopw [9] (fun i wr => ∃ (k : Nat) (bs : List Nat), k ≤ n ∧ i = .int .i64 k ∧ St [] w wr [own 84 (sl 76 dFrac) (.slice (some ⟨b, 0, none⟩) n n) (fill (List.replicate n (List.replicate n (⟨0, 1⟩ : Frac))) k []) bs]) (fun i _ => n - (intOf i).toNat)
  case atStart => exact ⟨0, _, Nat.zero_le _, rfl, by rw [fill_zero, List.length_replicate]; exact S⟩
  case round =>
    clear S
    obtain ⟨k, bs, hk, rfl, S⟩ := hrel
    have hlen : (List.replicate n (List.replicate n (⟨0, 1⟩ : Frac))).length = n := List.length_replicate
    by_cases hlt : k < n
    · obtain ⟨ci, by', bo, -, -, S⟩ := S.open (.take .nil) k (fill_at (by rw [hlen]; exact hlt))
      have S := S.drop (.take (.keep .nil))
      have hfl := hid (show k < (fill (List.replicate n (List.replicate n (⟨0, 1⟩ : Frac))) k []).length by rw [fill_len (by rw [hlen]; exact hk), hlen]; exact hlt)
      have hlen := hid hlen
      go_wp2_with (first
        | (with_reducible refine s_idxS (h := ?_))
        | (go_at_call 119; refine (zero_ok _).mono ?_; rintro e w1 ⟨rfl, hc⟩; have S := S.step hc; clear hc)
        | ((with_reducible refine gd 15 ?_); refine s_bs (cs := encF ⟨0, 1⟩) S ?_; clear S; intro b2 w1 S hcN; clear hcN)
        | (go_at_call 118; refine (repeatFraction_ok ⟨0, 1⟩ n _ _ (Rd.one S (.head _) (fun _ => ⟨rfl, rfl⟩)) hn0 (by omega)).mono ?_; rintro e w1 ⟨v2, bs2, rfl, T⟩; have S := S.grow T; clear T; obtain ⟨A2, c2, rfl, -, -⟩ := own_slice S (.head _); rw [List.length_replicate] at S ⊢)
        | ((with_reducible refine gs 18 ?_); refine s_stP (i := k) (vs := [.slice A2 n c2]) S (.there (.there .here)) rfl (by first | exact At.of | exact At.at1 | exact At.at_) hfl.out rfl rfl rfl (by simp [Value.oneCell']) ?_; clear S; intro w2 S))
      go_roundw
      case rel =>
        have S := S.drop (.keep (.take (.keep .nil)))
        obtain ⟨bs3, S⟩ := S.close (.take (.take .nil)) hfl.out
        refine ⟨k + 1, bs3, hlt, by go_num, ?_⟩
        have e := fill_set (z := ([] : List Frac)) (show k < (List.replicate n (List.replicate n (⟨0, 1⟩ : Frac))).length by rw [hlen.out]; exact hlt)
        rw [List.getElem_replicate] at e
        rw [e] at S
        exact S
      case measure => simp [intOf]; omega
    · obtain rfl : k = n := by omega
      go_wp2
      refine s_ret1 S (h := ?_)
      refine ⟨_, bs, rfl, ?_⟩
      have e := fill_all (xs := List.replicate k (List.replicate k (⟨0, 1⟩ : Frac))) (z := ([] : List Frac))
      rw [hlen] at e
      rw [e] at S
      exact S
end Go.Proofs.Ytcfialfgkkjlfaa
