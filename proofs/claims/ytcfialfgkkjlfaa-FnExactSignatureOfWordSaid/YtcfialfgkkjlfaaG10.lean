/- Tables: powers, the exponential. -/
import Derived.Test.YtcfialfgkkjlfaaG9
set_option linter.unusedSimpArgs false
set_option linter.unusedVariables false
namespace Go.Sg
open Go.Sx
def unitT (d n : Nat) : Tb := ⟨(newT d n).vals.set 0 ⟨1, 1⟩, false⟩
def powP (d n : Nat) (t : Tb) : Nat → Tb
  | 0 => unitT d n
  | k + 1 => timesT d n (powP d n t k) t
def outP (d n : Nat) (t : Tb) (first : Nat) (c : Nat → Frac) : Nat → Tb
  | 0 => newT d n
  | k + 1 => if first ≤ k then sumT (outP d n t first c k) (scaledT (powP d n t k) (c k)) else outP d n t first c k
def powersT (d n : Nat) (t : Tb) (first : Nat) (c : Nat → Frac) : Tb := outP d n t first c (n + 1)
theorem TOk.unit {d n : Nat} (hd : d ≤ 3) (hn : n ≤ 8) : TOk d n (unitT d n) := ⟨hd, hn, by simp [unitT, newT], set_isF (TOk.new hd hn).fr 0 (by decide)⟩
theorem TOk.powP {d n : Nat} {t : Tb} (h : TOk d n t) : ∀ k, TOk d n (powP d n t k)
  | 0 => TOk.unit h.hd h.hn
  | k + 1 => (TOk.powP h k).times
theorem TOk.outP {d n : Nat} {t : Tb} (h : TOk d n t) (first : Nat) (c : Nat → Frac) : ∀ k, TOk d n (outP d n t first c k)
  | 0 => TOk.new h.hd h.hn
  | k + 1 => by
    unfold Sg.outP
    split
    · exact (TOk.outP h first c k).sum ((h.powP k).scaled _)
    · exact TOk.outP h first c k
theorem TOk.powers {d n : Nat} {t : Tb} (h : TOk d n t) (first : Nat) (c : Nat → Frac) : TOk d n (powersT d n t first c) := h.outP first c _
theorem outP_succ (d n : Nat) (t : Tb) (first : Nat) (c : Nat → Frac) (k : Nat) : outP d n t first c (k + 1) = if first ≤ k then sumT (outP d n t first c k) (scaledT (powP d n t k) (c k)) else outP d n t first c k := rfl
theorem powP_succ (d n : Nat) (t : Tb) {k : Nat} (h : 0 < k) : powP d n t k = timesT d n (powP d n t (k - 1)) t := by
  obtain ⟨j, rfl⟩ : ∃ j, k = j + 1 := ⟨k - 1, by omega⟩
  rfl
def facN : Nat → Nat
  | 0 => 1
  | k + 1 => facN k * (k + 1)
theorem facN_pos : ∀ k, 0 < facN k
  | 0 => Nat.one_pos
  | k + 1 => Nat.mul_pos (facN_pos k) (by omega)
theorem facN_le : ∀ k, k ≤ 12 → facN k ≤ 479001600 := by decide
def expC (k : Nat) : Frac := ⟨1, facN k⟩
theorem expC_isF {k : Nat} (h : k ≤ 12) : isF (expC k) = true := by
  have h1 := facN_pos k
  have h2 := facN_le k h
  unfold isF expC
  simp only [decide_eq_true_eq]
  refine ⟨by omega, by omega, by omega, by omega, ?_⟩
  simp [gcd]
def expT (d n : Nat) (t : Tb) : Tb := powersT d n t 0 expC
end Go.Sg
namespace Go.Proofs.Ytcfialfgkkjlfaa
open Go.RowKit Go.Sx Go.Sg
set_option maxRecDepth 100000 in
theorem factorial_ok (k : Nat) (w0 : World) (hk : k ≤ 12) : Calls Try.prog 182 #[.int .i64 k] w0 fun e w' => e = .returned (.int .i64 (facN k : Nat)) ∧ Chg [] w0 w' := by
  have S := St.start w0
  go_enter Try.func182, Try.ntmps182
  go_wp2
  go_loopw [3, 4] (fun u i wr => ∃ j : Nat, 1 ≤ j ∧ j ≤ max k 1 ∧ u = .int .i64 (facN j : Nat) ∧ i = .int .i64 ((j + 1 : Nat) : Int) ∧ St [] w0 wr []) (fun _ i _ => k + 2 - (intOf i).toNat)
  case atStart => exact ⟨1, Nat.le_refl _, by omega, rfl, rfl, S⟩
  case round =>
    clear S
    obtain ⟨j, hj1, hj, rfl, rfl, S⟩ := hrel
    by_cases hlt : j < k
    · have h1 := facN_le j (by omega)
      have h2 := facN_pos j
      have e1 : facN (j + 1) = facN j * (j + 1) := rfl
      have h3 := facN_le (j + 1) (by omega)
      have e2 : ((facN (j + 1) : Nat) : Int) = (facN j : Int) * ((j : Int) + 1) := by rw [e1]; simp
      rw [e1] at h3
      have h4 : (facN j : Int) * ((j : Int) + 1) ≤ 479001600 := by
        have : ((facN j * (j + 1) : Nat) : Int) ≤ 479001600 := by omega
        simpa using this
      have h5 : 0 ≤ (facN j : Int) * ((j : Int) + 1) := Int.mul_nonneg (by omega) (by omega)
      replace e2 := hid e2
      clear e1 h3
      generalize facN j = f at *
      go_wp2
      go_roundw
      case rel => exact ⟨j + 1, by omega, by omega, by rw [e2.out], by go_num, S⟩
      case measure => simp [intOf]; omega
    · go_wp2
      refine s_ret1 S (h := ?_)
      refine ⟨?_, S.chg⟩
      have : facN k = facN j := by
        rcases Nat.eq_zero_or_pos k with h | h
        · subst h
          obtain rfl : j = 1 := by omega
          rfl
        · obtain rfl : j = k := by omega
          rfl
      show Ending.returned (.int .i64 (facN j : Nat)) = _
      rw [this]
theorem exp1_ok (k : Nat) (w0 : World) (hk : k ≤ 12) : Calls Try.prog 181 #[.int .i64 k] w0 fun e w' => e = .returned (.agg #[.int .i64 (expC k).num, .int .i64 (expC k).den]) ∧ Chg [] w0 w' := by
  have S := St.start w0
  go_enter Try.func181, Try.ntmps181
  go_wp2_with (first
    | ((with_reducible refine s_box S (h := ?_)); clear S; intro b w S hcN; clear hcN) | ((with_reducible refine s_alloc S (h := ?_)); clear S; intro b w S hcN; clear hcN) | (with_reducible refine s_load S (h := ?_)) | (with_reducible refine s_loadA S (h := ?_)) | ((with_reducible refine s_store S (h := ?_)); clear S; intro w S)
    | (go_at_call 182; refine (factorial_ok k _ hk).mono ?_; rintro e w1 ⟨rfl, hc⟩; have S := S.step hc; clear hc))
  refine s_ret1 S (h := ?_)
  exact ⟨rfl, S.chg⟩
set_option maxRecDepth 100000 in
/-- powers with one closure. -/
theorem powersExp_ok (p d n : Nat) (v : Value) (t : Tb) (w0 : World) (hT : TabR w0 p d n v t) (hO : TOk d n t) :
    Calls Try.prog 180 #[.pointer (some ⟨p, 0, none⟩), .int .i64 0, .func (.func 181) #[] #[]] w0 fun e w' => ∃ b v bs, e = .returned (.pointer (some ⟨b, 0, none⟩)) ∧ St [] w0 w' [tabC b d n v (powersT d n t 0 expC).bad, tabV v (powersT d n t 0 expC).vals bs] := by
  have S := St.start w0
  have h1 := hT.hn
  have hd3 := hO.hd
  have hn8 := hO.hn
  go_enter Try.func180, Try.ntmps180
  go_wp2_with (first
    | (go_at_call 167; refine (like_ok _ d n _ t _ (hT.step S.chg) hd3 hn8).mono ?_; rintro e w1 ⟨b7, v7, bs7, rfl, T⟩; have S := S.grow2 T; clear T)
    | (go_at_call 128; refine (unit_ok _ d n _ t _ (hT.step S.chg) hd3 hn8).mono ?_; rintro e w1 ⟨b8, v8, bs8, rfl, T⟩; have S := S.grow2 T; clear T)
    | ((with_reducible refine gd 17 ?_); refine s_ldE rfl (h1.step S.chg) rfl ?_)
    | ((with_reducible refine s_box S (h := ?_)); clear S; intro b w S hcN; clear hcN) | ((with_reducible refine s_alloc S (h := ?_)); clear S; intro b w S hcN; clear hcN) | (with_reducible refine s_load S (h := ?_)) | (with_reducible refine s_loadA S (h := ?_)) | ((with_reducible refine s_store S (h := ?_)); clear S; intro w S))
  have S := S.sel (H' := [tabC b7 d n v7 (outP d n t 0 expC 0).bad, tabV v7 (outP d n t 0 expC 0).vals bs7, tabC b8 d n v8 (powP d n t (0 - 1)).bad, tabV v8 (powP d n t (0 - 1)).vals bs8]) (.cons (.there (.there .here)) (.cons (.there (.there .here)) (.cons .here (.cons .here .nil))))
  go_loopw [7, 8, 19] (fun o q i wr => ∃ (k b7 b8 : Nat) (v7 v8 : Value) (bs7 bs8 : List Nat), k ≤ n + 1 ∧ i = .int .i64 k ∧ o = .pointer (some ⟨b7, 0, none⟩) ∧ q = .pointer (some ⟨b8, 0, none⟩) ∧ St [] w0 wr [tabC b7 d n v7 (outP d n t 0 expC k).bad, tabV v7 (outP d n t 0 expC k).vals bs7, tabC b8 d n v8 (powP d n t (k - 1)).bad, tabV v8 (powP d n t (k - 1)).vals bs8]) (fun _ _ i _ => n + 1 - (intOf i).toNat)
  case atStart => exact ⟨0, b7, b8, v7, v8, bs7, bs8, Nat.zero_le _, rfl, rfl, rfl, S⟩
  case round =>
    clear S
    obtain ⟨k, b7, b8, v7, v8, bs7, bs8, hk, rfl, rfl, rfl, S⟩ := hrel
    by_cases hlt : k < n + 1
    · have hOq := TOk.powP hO (k - 1)
      have hOo := TOk.outP hO 0 expC k
      have hOk := TOk.powP hO k
      have hnx := hid (outP_succ d n t 0 expC k)
      have hcf := hid ((fun k (h : k ≤ 12) => expC_isF h) k (by omega))
      rcases Nat.eq_zero_or_pos k with hk0 | hk0
      · subst hk0
        have S : St [] w0 wr [tabC b7 d n v7 (outP d n t 0 expC 0).bad, tabV v7 (outP d n t 0 expC 0).vals bs7, tabC b8 d n v8 (powP d n t 0).bad, tabV v8 (powP d n t 0).vals bs8] := S
        replace hcf := hcf.out
        generalize hpw : powP d n t 0 = pw at *
        generalize outP d n t 0 expC 0 = ou at *
        replace hpw := hid hpw
        have hf : 0 ≤ 0 := Nat.le_refl 0
        go_wp2_with (first
            | (go_at_call 181; refine (exp1_ok 0 _ (by omega)).mono ?_; rintro e w1 ⟨rfl, hc⟩; have S := S.step hc; clear hc)
            | (go_at_call 186; refine (scaled_ok _ d n _ pw (expC 0) _ (TabR.of (t := pw) S (by repeat (with_reducible first | exact List.mem_cons_self | apply List.mem_cons_of_mem)) (by repeat (with_reducible first | exact List.mem_cons_self | apply List.mem_cons_of_mem))) hOk hcf).mono ?_; rintro e w1 ⟨b10, v10, bs10, rfl, T⟩; have S := S.grow2 T; clear T)
            | (go_at_call 185; refine (sum_ok _ d n _ ou _ _ (scaledT pw (expC 0)) _ (TabR.of (t := ou) S (by repeat (with_reducible first | exact List.mem_cons_self | apply List.mem_cons_of_mem)) (by repeat (with_reducible first | exact List.mem_cons_self | apply List.mem_cons_of_mem))) hOo (TabR.of (t := scaledT pw (expC 0)) S (by repeat (with_reducible first | exact List.mem_cons_self | apply List.mem_cons_of_mem)) (by repeat (with_reducible first | exact List.mem_cons_self | apply List.mem_cons_of_mem))) (hOk.scaled _)).mono ?_; rintro e w1 ⟨b11, v11, bs11, rfl, T⟩; have S := S.grow2 T; clear T))
        go_roundw
        case rel =>
          refine ⟨0 + 1, b11, b8, v11, v8, bs11, bs8, hlt, by go_num, rfl, rfl, ?_⟩
          rw [hnx.out, if_pos hf, show powP d n t (0 + 1 - 1) = pw from hpw.out]
          exact S.sel (by repeat (first | exact Sel.nil | (apply Sel.cons (by repeat (first | exact Rem.here | apply Rem.there)))))
        case measure => first | (simp [intOf]; omega) | simp [intOf]
      · have hpx := hid (powP_succ d n t hk0)
        replace hcf := hcf.out
        have hf : 0 ≤ k := Nat.zero_le k
        generalize powP d n t (k - 1) = pq at *
        generalize hpw : powP d n t k = pw at *
        generalize outP d n t 0 expC k = ou at *
        replace hpw := hid hpw
        go_wp2_with (first
          | (go_at_call 129; refine (tabTimes_ok _ d n _ pq _ _ t _ (TabR.of (t := pq) S (by repeat (with_reducible first | exact List.mem_cons_self | apply List.mem_cons_of_mem)) (by repeat (with_reducible first | exact List.mem_cons_self | apply List.mem_cons_of_mem))) hOq (hT.step S.chg) hO).mono ?_; rintro e w1 ⟨b9, v9, bs9, rfl, T⟩; rw [← hpx.out] at T; have S := S.grow2 T; clear T)
          | (go_at_call 181; refine (exp1_ok k _ (by omega)).mono ?_; rintro e w1 ⟨rfl, hc⟩; have S := S.step hc; clear hc)
          | (go_at_call 186; refine (scaled_ok _ d n _ pw (expC k) _ (TabR.of (t := pw) S (by repeat (with_reducible first | exact List.mem_cons_self | apply List.mem_cons_of_mem)) (by repeat (with_reducible first | exact List.mem_cons_self | apply List.mem_cons_of_mem))) hOk hcf).mono ?_; rintro e w1 ⟨b10, v10, bs10, rfl, T⟩; have S := S.grow2 T; clear T)
          | (go_at_call 185; refine (sum_ok _ d n _ ou _ _ (scaledT pw (expC k)) _ (TabR.of (t := ou) S (by repeat (with_reducible first | exact List.mem_cons_self | apply List.mem_cons_of_mem)) (by repeat (with_reducible first | exact List.mem_cons_self | apply List.mem_cons_of_mem))) hOo (TabR.of (t := scaledT pw (expC k)) S (by repeat (with_reducible first | exact List.mem_cons_self | apply List.mem_cons_of_mem)) (by repeat (with_reducible first | exact List.mem_cons_self | apply List.mem_cons_of_mem))) (hOk.scaled _)).mono ?_; rintro e w1 ⟨b11, v11, bs11, rfl, T⟩; have S := S.grow2 T; clear T))
        go_roundw
        case rel =>
          refine ⟨k + 1, b11, b9, v11, v9, bs11, bs9, hlt, by go_num, rfl, rfl, ?_⟩
          rw [hnx.out, if_pos hf, show powP d n t (k + 1 - 1) = pw from hpw.out]
          exact S.sel (by repeat (first | exact Sel.nil | (apply Sel.cons (by repeat (first | exact Rem.here | apply Rem.there)))))
        case measure => first | (simp [intOf]; omega) | simp [intOf]
    · obtain rfl : k = n + 1 := by omega
      go_wp2
      refine s_ret1 S (h := ?_)
      exact ⟨b7, v7, bs7, rfl, S.sel (by repeat (first | exact Sel.nil | (apply Sel.cons (by repeat (first | exact Rem.here | apply Rem.there)))))⟩

theorem exponential_ok (p d n : Nat) (v : Value) (t : Tb) (w0 : World) (hT : TabR w0 p d n v t) (hO : TOk d n t) :
    Calls Try.prog 171 #[.pointer (some ⟨p, 0, none⟩)] w0 fun e w' => ∃ b v bs, e = .returned (.pointer (some ⟨b, 0, none⟩)) ∧ St [] w0 w' [tabC b d n v (expT d n t).bad, tabV v (expT d n t).vals bs] := by
  have S := St.start w0
  go_enter Try.func171, Try.ntmps171
  go_wp2_with (go_at_call 180; refine (powersExp_ok _ d n _ t _ (hT.step S.chg) hO).mono ?_; rintro e w1 ⟨b9, v9, bs9, rfl, T⟩; have S := S.grow2 T; clear T)
  refine s_ret1 S (h := ?_)
  exact ⟨b9, v9, bs9, rfl, S⟩
end Go.Proofs.Ytcfialfgkkjlfaa
