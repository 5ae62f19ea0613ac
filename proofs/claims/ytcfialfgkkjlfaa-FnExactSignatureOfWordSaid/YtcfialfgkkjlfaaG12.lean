/- Group words: contracts of pathOfWord, IsGroupWord, SignatureOfWord, DepthOfWord of the program. -/
import Derived.Test.YtcfialfgkkjlfaaG11
set_option linter.unusedSimpArgs false
set_option linter.unusedVariables false
namespace Go.Sg
open Go.Sx
def sgn (x : Int) : Int := if x < 0 then -1 else 1
def stepOf (d : Nat) (x : Int) : List Int := (List.replicate d 0).set (x.natAbs - 1) (sgn x)
def badG (d x : Int) : Bool := x == 0 || !Go.Proofs.Ytcfialfgkkjlfaa.inB x (-d) d
def isGW (d : Int) (w : List Int) : Bool := Go.Proofs.Ytcfialfgkkjlfaa.inB d 1 3 && (decide ((w.length : Int) ≤ 12) && !w.any (badG d))
theorem badG_iff {d x : Int} : badG d x = false ↔ x ≠ 0 ∧ -d ≤ x ∧ x ≤ d := by simp [badG, Go.Proofs.Ytcfialfgkkjlfaa.inB]
theorem isGW_iff {d : Int} {w : List Int} : isGW d w = true ↔ 1 ≤ d ∧ d ≤ 3 ∧ w.length ≤ 12 ∧ ∀ x ∈ w, x ≠ 0 ∧ -d ≤ x ∧ x ≤ d := by
  unfold isGW
  rw [Bool.and_eq_true, Bool.and_eq_true, Bool.not_eq_true', List.any_eq_false, Go.Proofs.Ytcfialfgkkjlfaa.inB_iff, decide_eq_true_eq]
  constructor
  · rintro ⟨⟨h1, h2⟩, h3, h4⟩
    exact ⟨h1, h2, by omega, fun x hx => badG_iff.1 (by simpa using h4 x hx)⟩
  · rintro ⟨h1, h2, h3, h4⟩
    exact ⟨⟨h1, h2⟩, by omega, fun x hx => by rw [badG_iff.2 (h4 x hx)]; simp⟩
theorem tdiv_sgn {x : Int} (h : x ≠ 0) : x.tdiv (x.natAbs : Int) = sgn x := by
  unfold sgn
  split
  · rw [show (x.natAbs : Int) = -x from by omega, Int.tdiv_neg, Int.tdiv_self h]
  · rw [show (x.natAbs : Int) = x from by omega, Int.tdiv_self h]
end Go.Sg
namespace Go.Proofs.Ytcfialfgkkjlfaa
open Go.RowKit Go.Sx Go.Sg
set_option maxRecDepth 100000 in
theorem pathOfWord_ok (d : Nat) (xs : List Int) (v : Value) (w0 : World) (hR : Rd (sl 2 dInt) w0 xs [v]) (hd3 : d ≤ 3) (hl : xs.length ≤ 12) (hx : ∀ x ∈ xs, x ≠ 0 ∧ -(d : Int) ≤ x ∧ x ≤ d) :
    Calls Try.prog 72 #[.int .i64 d, v] w0 fun e w' => ∃ v bs, e = .returned v ∧ St [] w0 w' [own 31 (sl 2 dInt) v (xs.map (stepOf d)) bs] := by
  have S := St.start w0
  obtain ⟨A, c, rfl, hc1, hc2⟩ := hR.slice
  unfold maxLen at hc2
  go_enter Try.func72, Try.ntmps72
  go_wp2
  have S := S.nilOwn2 (e := 31) (d := sl 2 dInt)
  go_loopw [5, 11] (fun u i wr => ∃ (k : Nat) (bs : List Nat), k ≤ xs.length ∧ i = .int .i64 k ∧ St [] w0 wr [own 31 (sl 2 dInt) u ((xs.take k).map (stepOf d)) bs]) (fun _ i _ => xs.length - (intOf i).toNat)
  case atStart => exact ⟨0, _, Nat.zero_le _, rfl, S⟩
  case round =>
    clear S
    obtain ⟨k, bs, hk, rfl, S⟩ := hrel
    have hb : (((xs.take k).map (stepOf d)).length + 1) * 24 ≤ 140737488355328 := by simp; omega
    generalize hz : (xs.take k).map (stepOf d) = ys at *
    replace hz := hid hz
    replace hb := hid hb
    obtain ⟨A2, c2, rfl, -, -⟩ := own_slice S (.head _)
    by_cases hlt : k < xs.length
    · obtain ⟨ad, _, rfl, -, ⟨_, rfl, _⟩, hE⟩ := hR.getS k _ (List.getElem?_eq_getElem hlt)
      obtain ⟨hx0, hx1, hx2⟩ := hx _ (List.getElem_mem hlt)
      have hst := hid (show (List.replicate d (0 : Int)).set (xs[k].natAbs - 1) (sgn xs[k]) = stepOf d xs[k] from rfl)
      have hq := tdiv_sgn hx0
      have hnx := hid (show (xs.take (k + 1)).map (stepOf d) = ys ++ [stepOf d xs[k]] by rw [take_next hlt, List.map_append, hz.out]; rfl)
      generalize xs[k] = x at *
      have hs1 : sgn x = 1 ∨ sgn x = -1 := by unfold sgn; split <;> simp
      generalize sgn x = sg at *
      have hlr : x.natAbs - 1 < (List.replicate d (0 : Int)).length := by simp; omega
      replace hlr := hid hlr
      go_wp2_with (first
        | (with_reducible refine s_quo (h := ?_))
        | (with_reducible refine s_idxS (h := ?_))
        | ((with_reducible refine gd 14 ?_); refine s_ldE rfl (hE.step S.chg) rfl ?_)
        | ((with_reducible refine gd 16 ?_); refine s_make (m := d) (d := dInt) (x0 := 0) S rfl (by decide) rfl rfl (fun _ => ⟨rfl, rfl⟩) (by omega) (by unfold maxLen; omega) ?_; clear S; intro b4 w1 S)
        | (go_at_call 131; refine (size_ok _ _ (by omega) (by omega)).mono ?_; rintro e w1 ⟨rfl, hc⟩; have S := S.step hc; clear hc)
        | ((with_reducible refine gs 25 ?_); refine s_stW (i := x.natAbs - 1) (y0 := sg) S .here rfl (by rw [show ((x.natAbs : Int) - 1).toNat = x.natAbs - 1 from by omega]; exact At.of) hlr.out rfl rfl ?_; clear S; intro w2 S; rw [hst.out] at S)
        | ((with_reducible refine gd 28 ?_); refine s_bs (cs := [.slice (some ⟨b4, 0, none⟩) d d]) S ?_; clear S; intro b5 w1 S hcN; clear hcN)
        | ((with_reducible refine gd 29 ?_); refine s_appN (d := sl 2 dInt) (x0 := stepOf d x) S rfl (by decide) (by decide) rfl rfl (.take (.take (.take .nil))) hb.out ?_; clear S; intro A6 c6 bs6 w1 S))
      go_roundw
      case rel =>
        refine ⟨k + 1, bs6, hlt, by go_num, ?_⟩
        rw [hnx.out]
        exact S
      case measure => simp [intOf]; omega
    · obtain rfl : k = xs.length := by omega
      go_wp2
      refine s_ret1 S (h := ?_)
      refine ⟨_, bs, rfl, ?_⟩
      have hz := hz.out
      rw [List.take_length] at hz
      rw [hz]
      exact S
theorem isGW1_ok (x d : Int) (b : Nat) (w0 : World) (hn : El w0 ⟨b, 0, none⟩ [.int .i64 d]) (h0 : 0 ≤ d) (h1 : d ≤ 1000) : Calls Try.prog 126 #[.int .i64 x, .pointer (some ⟨b, 0, none⟩)] w0 fun e w' => e = .returned (.bool (badG d x)) ∧ Chg [] w0 w' := by
  have S := St.start w0
  have e : badG d x = (x == 0 || !inB x (-d) d) := rfl
  rw [e]
  cases hx0 : (x == 0)
  all_goals go_enter Try.func126, Try.ntmps126
  all_goals go_wp2_with (first
    | ((with_reducible refine gd 8 ?_); first | (with_reducible refine s_skip ?_) | refine s_ldE rfl (hn.step S.chg) rfl ?_)
    | (go_at_call 127; refine (upTo_ok _ _ _ (by omega) (by omega)).mono ?_; rintro e w1 ⟨rfl, hc⟩; have S := S.step hc; clear hc))
  all_goals refine s_ret1 S (h := ?_)
  all_goals refine ⟨?_, S.chg⟩
  all_goals simp [*]
set_option maxRecDepth 100000 in
/-- slices.IndexFunc and ContainsFunc with one closure: whether there is an element that it reports. -/
theorem ixG_ok (d : Int) (b : Nat) (xs : List (Int)) (v : Value) (w : World) (hR : Rd (sl 2 dInt) w xs [v])  (hn : El w ⟨b, 0, none⟩ [.int .i64 d]) (h0 : 0 ≤ d) (h1 : d ≤ 1000) :
    Calls Try.prog 166 #[v, .func (.func 126) #[] #[.pointer (some ⟨b, 0, none⟩)]] w fun e w' => ∃ r : Int, e = .returned (.int .i64 r) ∧ (decide (0 ≤ r) = xs.any (badG d)) ∧ -1 ≤ r ∧ Chg [] w w' := by
  have S := St.start w
  obtain ⟨A, c, rfl, hc1, hc2⟩ := hR.slice
  unfold maxLen at hc2
  go_enter Try.func166, Try.ntmps166
  go_wp2
  go_loopw [8] (fun i wr => ∃ k : Nat, k ≤ xs.length ∧ i = .int .i64 k ∧ Hid ((xs.take k).any (badG d) = false) ∧ St [] w wr []) (fun i _ => xs.length - (intOf i).toNat)
  case atStart => exact ⟨0, Nat.zero_le _, rfl, hid rfl, S⟩
  case round =>
    clear S
    obtain ⟨k, hk, rfl, hp, S⟩ := hrel
    by_cases hlt : k < xs.length
    · obtain ⟨ad, cy, rfl, -, hRi, hE⟩ := (S.rd hR).getS k _ (List.getElem?_eq_getElem hlt)
      obtain ⟨_, rfl, _⟩ := hRi
      have hn2 := hn.step S.chg
      go_wp2_with (first
        | (with_reducible refine s_idxS (h := ?_))
        | ((with_reducible refine gd 15 ?_); refine s_ldE rfl hE rfl ?_)
        | (go_at_call 126; refine (isGW1_ok xs[k] d b _ hn2 h0 h1).mono ?_; rintro e w1 ⟨rfl, hc⟩; have S := S.step hc; clear hc))
      · refine s_ret1 S (h := ?_)
        refine ⟨k, rfl, ?_, by omega, S.chg⟩
        rw [any_at hlt (by assumption)]
        simp
      · go_roundw
        case rel => exact ⟨k + 1, hlt, by go_num, hid (any_next hlt hp.out (by assumption)), S⟩
        case measure => simp [intOf]; omega
    · obtain rfl : k = xs.length := by omega
      go_wp2
      refine s_ret1 S (h := ?_)
      refine ⟨-1, rfl, ?_, by omega, S.chg⟩
      have h := hp.out
      rw [List.take_length] at h
      rw [h]
      decide
theorem hasG_ok (d : Int) (b : Nat) (xs : List (Int)) (v : Value) (w : World) (hR : Rd (sl 2 dInt) w xs [v])  (hn : El w ⟨b, 0, none⟩ [.int .i64 d]) (h0 : 0 ≤ d) (h1 : d ≤ 1000) :
    Calls Try.prog 125 #[v, .func (.func 126) #[] #[.pointer (some ⟨b, 0, none⟩)]] w fun e w' => e = .returned (.bool (xs.any (badG d))) ∧ Chg [] w w' := by
  have S := St.start w
  go_enter Try.func125, Try.ntmps125
  go_wp2_with (go_at_call 166; refine (ixG_ok d b xs v _ (S.rd hR)  (hn.step S.chg) h0 h1).mono ?_; rintro e w1 ⟨r, rfl, hr, hr1, hc⟩; have S := S.step hc; clear hc)
  refine s_ret1 S (h := ?_)
  exact ⟨rfl, S.chg⟩

set_option maxRecDepth 100000 in
theorem IsGroupWord_ok (d : Int) (xs : List Int) (v : Value) (w0 : World) (hR : Rd (sl 2 dInt) w0 xs [v]) :
    Calls Try.prog 69 #[.int .i64 d, v] w0 fun e w' => e = .returned (.bool (isGW d xs)) ∧ Chg [] w0 w' := by
  have S := St.start w0
  obtain ⟨A, c, rfl, hc1, hc2⟩ := hR.slice
  unfold maxLen at hc2
  have e : isGW d xs = (inB d 1 3 && (decide ((xs.length : Int) ≤ 12) && !xs.any (badG d))) := rfl
  rw [e]
  cases hin : inB d 1 3
  · go_enter Try.func69, Try.ntmps69
    go_wp2_with (first
      | ((with_reducible refine s_box S (h := ?_)); clear S; intro b w S hcN; clear hcN) | ((with_reducible refine s_alloc S (h := ?_)); clear S; intro b w S hcN; clear hcN) | (with_reducible refine s_load S (h := ?_)) | (with_reducible refine s_loadA S (h := ?_)) | ((with_reducible refine s_store S (h := ?_)); clear S; intro w S)
      | (go_at_call 94; refine (areLetters_ok d _).mono ?_; rintro e w1 ⟨rfl, hc⟩; have S := S.step hc; clear hc))
    all_goals refine s_ret1 S (h := ?_)
    all_goals refine ⟨?_, S.chg⟩
    all_goals simp [*]
  · obtain ⟨hd1, hd2⟩ := inB_iff.1 hin
    cases hl : decide ((xs.length : Int) ≤ 12)
    all_goals go_enter Try.func69, Try.ntmps69
    all_goals go_wp2_with (first
      | ((with_reducible refine s_box S (h := ?_)); clear S; intro b w S hcN; clear hcN) | ((with_reducible refine s_alloc S (h := ?_)); clear S; intro b w S hcN; clear hcN) | (with_reducible refine s_load S (h := ?_)) | (with_reducible refine s_loadA S (h := ?_)) | ((with_reducible refine s_store S (h := ?_)); clear S; intro w S)
      | (go_at_call 94; refine (areLetters_ok d _).mono ?_; rintro e w1 ⟨rfl, hc⟩; have S := S.step hc; clear hc)
      | (go_at_call 125; refine (hasG_ok d _ xs _ _ (S.rd hR) (El.of_cel S (.head _)) (by omega) (by omega)).mono ?_; rintro e w1 ⟨rfl, hc⟩; have S := S.step hc; clear hc))
    all_goals refine s_ret1 S (h := ?_)
    all_goals refine ⟨?_, S.chg⟩
    all_goals simp [*]
end Go.Proofs.Ytcfialfgkkjlfaa
