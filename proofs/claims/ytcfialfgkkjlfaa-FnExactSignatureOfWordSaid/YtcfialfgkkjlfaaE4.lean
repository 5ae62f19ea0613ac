/- Contracts: the laws' helpers for series. -/
import Derived.Test.YtcfialfgkkjlfaaE3
import Derived.Test.YtcfialfgkkjlfaaB4
set_option linter.unusedSimpArgs false
set_option linter.unusedVariables false
namespace Go.Sg
def mkTerm : Mk Term := ⟨fun _ k => ⟨markT k, ⟨k + 1, k + 2⟩⟩, fun _ k => k + 3⟩
theorem nexts_term : ∀ (xs : List Term) (k : Int), mkTerm.nexts xs k = k + 3 * xs.length
  | [], k => by simp [Mk.nexts]
  | x :: xs, k => by
    show mkTerm.nexts xs (k + 3) = _
    rw [nexts_term xs (k + 3)]
    simp
    omega
theorem marks_term_at : ∀ (xs : List Term) (k : Int) (j : Nat), j < xs.length → (mkTerm.marks xs k)[j]? = some ⟨markT (k + 3 * j), ⟨k + 3 * j + 1, k + 3 * j + 2⟩⟩
  | [], _, _, h => by simp at h
  | x :: xs, k, 0, _ => by show some _ = some _; simp [mkTerm]
  | x :: xs, k, j + 1, h => by
    show (mkTerm.marks xs (k + 3))[j]? = _
    rw [marks_term_at xs (k + 3) j (by simpa using h), show k + 3 + 3 * (j : Int) = k + 3 * ((j + 1 : Nat) : Int) from by omega]
theorem spl_w {a : Term} {s : ByteArray} : Go.Sx.Spl (encT a) 0 [.string s] (encT ⟨s, a.val⟩) := .here .done
theorem spl_n {s : ByteArray} {v : Frac} {n : Int} : Go.Sx.Spl (encT ⟨s, v⟩) 1 [.int .i64 n] (encT ⟨s, ⟨n, v.den⟩⟩) := .there (.here .done)
theorem spl_d {s : ByteArray} {n d m : Int} : Go.Sx.Spl (encT ⟨s, ⟨n, d⟩⟩) 2 [.int .i64 m] (encT ⟨s, ⟨n, m⟩⟩) := .there (.there (.here .done))
end Go.Sg
namespace Go.Proofs.Ytcfialfgkkjlfaa
open Go.RowKit Go.Sx Go.Sg
theorem toSeries_ok (d n : Int) (xs : List Term) (v : Value) (w0 : World) (hR : Rd (sl 160 dTerm) w0 xs [v]) (hl : xs.length * 32 ≤ 281474976710656) :
    Calls Try.prog 28 #[.agg #[.int .i64 d, .int .i64 n, v]] w0 fun e w' => ∃ v' bs, e = .returned (.agg #[.int .i64 d, .int .i64 n, v']) ∧ St [] w0 w' [own 98 dTerm v' xs bs] := by
  have S := St.start w0
  obtain ⟨A, c, rfl, -, -⟩ := hR.slice
  go_enter Try.func28, Try.ntmps28
  go_wp2_with (first
   | ((with_reducible refine s_box S (h := ?_)); clear S; intro b w S hcN; clear hcN) | ((with_reducible refine s_alloc S (h := ?_)); clear S; intro b w S hcN; clear hcN) | (with_reducible refine s_load S (h := ?_)) | (with_reducible refine s_loadA S (h := ?_)) | ((with_reducible refine s_store S (h := ?_)); clear S; intro w S)
   | (go_at_call 82; refine (toTermS_ok xs _ _ (S.rd hR) hl).mono ?_; rintro e w1 ⟨v2, bs2, rfl, T⟩; have S := S.grow1 T; clear T; obtain ⟨A2, c2, rfl, -, -⟩ := own_slice S (.head _)))
  refine s_ret1 S (h := ?_)
  refine ⟨_, _, rfl, S.pick (.take (Split.keep (Split.keep (Split.keep .nil))))⟩
theorem eqSeries_ok (d n : Int) (xs : List Term) (v1 v2 : Value) (w0 : World) (hR : Rd (sl 98 dTerm) w0 xs [v1]) (hR2 : Rd (sl 98 dTerm) w0 xs [v2]) :
    Calls Try.prog 22 #[.agg #[.int .i64 d, .int .i64 n, v1], .agg #[.int .i64 d, .int .i64 n, v2]] w0 fun e w' => e = .returned (.bool true) ∧ Chg [] w0 w' := by
  have S := St.start w0
  obtain ⟨A, c, rfl, -, -⟩ := hR.slice
  obtain ⟨A2, c2, rfl, -, -⟩ := hR2.slice
  go_enter Try.func22, Try.ntmps22
  go_wp2_with (first
   | ((with_reducible refine s_box S (h := ?_)); clear S; intro b w S hcN; clear hcN) | ((with_reducible refine s_alloc S (h := ?_)); clear S; intro b w S hcN; clear hcN) | (with_reducible refine s_load S (h := ?_)) | (with_reducible refine s_loadA S (h := ?_)) | ((with_reducible refine s_store S (h := ?_)); clear S; intro w S)
   | (go_at_call 74; refine (eqTermS_ok xs _ _ _ (S.rd hR) (S.rd hR2)).mono ?_; rintro e w1 ⟨rfl, hc⟩; have S := S.step hc; clear hc))
  all_goals refine s_ret1 S (h := ?_)
  all_goals exact ⟨rfl, S.chg⟩
set_option maxRecDepth 100000 in
theorem markTermS_ok (xs : List Term) (v : Value) (k : Int) (bs M : List Nat) (w : World) (S : St M w w [own 98 dTerm v xs bs]) (hk0 : 0 < k) (hk1 : k + 3 * xs.length ≤ 4611686018427387904) :
    Calls Try.prog 75 #[v, .int .i64 k] w fun e w' => e = .returned (.int .i64 (k + 3 * xs.length)) ∧ St M w w' [own 98 dTerm v (mkTerm.marks xs k) bs] := by
  obtain ⟨A, c, rfl, hc1, hc2⟩ := own_slice S (.head _)
  unfold maxLen at hc2
  go_enter Try.func75, Try.ntmps75
  go_wp2
  go_loopw [1, 5] (fun u i wr => ∃ (j : Nat) (ys : List Term), j ≤ xs.length ∧ u = .int .i64 (k + 3 * j) ∧ i = .int .i64 j ∧ ys.length = j ∧ Hid (mkTerm.marks xs k = ys ++ mkTerm.marks (xs.drop j) (k + 3 * j)) ∧ St M w wr [own 98 dTerm (.slice A xs.length c) (ys ++ xs.drop j) bs]) (fun _ i _ => xs.length - (intOf i).toNat)
  case atStart => exact ⟨0, [], Nat.zero_le _, by simp, rfl, rfl, hid (by simp), S⟩
  case round =>
    clear S
    obtain ⟨j, ys, hj, rfl, rfl, hys, hm, S⟩ := hrel
    by_cases hlt : j < xs.length
    · rw [drop_cons hlt] at S hm
      obtain ⟨g, bx, cy, rfl, -, hx, hE⟩ := own_getS S (.head _) j _ (get_mid _ _ _ _ hys)
      clear hx hE
      go_wp2_with (first
        | (with_reducible refine s_idxS (h := ?_))
        | (with_reducible refine s_fld (h := ?_))
        | (go_at_call 134; refine (markText_ok _ _ (by omega) (by omega)).mono ?_; rintro e w1 ⟨rfl, hc⟩; have S := S.step hc; clear hc)
        | ((with_reducible refine gs 17 ?_); refine s_stO (i := j) (off := 0) (y0 := (⟨markT (k + 3 * j), xs[j].val⟩ : Term)) S .here rfl (by first | exact At.of.add 0 | exact At.at_) (get_mid _ _ _ _ hys) rfl spl_w rfl ?_; clear S; intro w2 S; rw [set_mid _ _ _ _ _ hys] at S)
        | ((with_reducible refine gs 25 ?_); refine s_stO (i := j) (off := 1) (y0 := (⟨markT (k + 3 * j), ⟨k + 3 * j + 1, xs[j].val.den⟩⟩ : Term)) S .here rfl (by first | exact At.of.add 1 | exact At.at_) (get_mid _ _ _ _ hys) rfl spl_n rfl ?_; clear S; intro w2 S; rw [set_mid _ _ _ _ _ hys] at S)
        | ((with_reducible refine gs 33 ?_); refine s_stO (i := j) (off := 2) (y0 := (⟨markT (k + 3 * j), ⟨k + 3 * j + 1, k + 3 * j + 1 + 1⟩⟩ : Term)) S .here rfl (by first | exact At.of.add 2 | exact At.at_) (get_mid _ _ _ _ hys) rfl spl_d rfl ?_; clear S; intro w2 S; rw [set_mid _ _ _ _ _ hys, show k + 3 * (j : Int) + 1 + 1 = k + 3 * j + 2 from by omega] at S))
      go_roundw
      case rel =>
        refine ⟨j + 1, ys ++ [⟨markT (k + 3 * j), ⟨k + 3 * j + 1, k + 3 * j + 2⟩⟩], hlt, by go_num, by go_num, by simp [hys], hid ?_, by rw [List.append_assoc]; exact S⟩
        rw [hm.out, List.append_assoc]
        congr 1
        show (⟨markT (k + 3 * j), ⟨k + 3 * j + 1, k + 3 * j + 2⟩⟩ : Term) :: mkTerm.marks _ (k + 3 * j + 3) = ⟨markT (k + 3 * j), ⟨k + 3 * j + 1, k + 3 * j + 2⟩⟩ :: mkTerm.marks _ (k + 3 * ((j + 1 : Nat) : Int))
        rw [show k + 3 * ((j + 1 : Nat) : Int) = k + 3 * j + 3 from by omega]
      case measure => simp [intOf]; omega
    · obtain rfl : j = xs.length := by omega
      go_wp2
      refine s_ret1 S (h := ?_)
      have hm2 := hm.out
      rw [List.drop_length] at hm2
      replace hm2 : mkTerm.marks xs k = ys := hm2.trans (List.append_nil _)
      rw [List.drop_length, List.append_nil] at S
      refine ⟨rfl, ?_⟩
      rw [hm2]
      exact S
theorem markSeries_ok (d n : Int) (xs : List Term) (v : Value) (k : Int) (bs M : List Nat) (w0 : World) (S : St M w0 w0 [own 98 dTerm v xs bs]) (hk0 : 0 < k) (hk1 : k + 3 * xs.length ≤ 4611686018427387904) :
    Calls Try.prog 24 #[.agg #[.int .i64 d, .int .i64 n, v], .int .i64 k] w0 fun e w' => e = .returned (.int .i64 (k + 3 * xs.length)) ∧ St M w0 w' [own 98 dTerm v (mkTerm.marks xs k) bs] := by
  obtain ⟨A, c, rfl, -, -⟩ := own_slice S (.head _)
  go_enter Try.func24, Try.ntmps24
  go_wp2_with (first
   | ((with_reducible refine s_box S (h := ?_)); clear S; intro b w S hcN; clear hcN) | ((with_reducible refine s_alloc S (h := ?_)); clear S; intro b w S hcN; clear hcN) | (with_reducible refine s_load S (h := ?_)) | (with_reducible refine s_loadA S (h := ?_)) | ((with_reducible refine s_store S (h := ?_)); clear S; intro w S)
   | (go_at_call 75; refine (markTermS_ok xs _ _ _ _ _ (S.piece (.keep (.take .nil))) hk0 hk1).mono ?_; rintro e w1 ⟨rfl, T⟩; have S := S.call1 (.keep (.take .nil)) T; clear T))
  refine s_ret1 S (h := ?_)
  exact ⟨rfl, S.pick (.take (.keep .nil))⟩
end Go.Proofs.Ytcfialfgkkjlfaa
