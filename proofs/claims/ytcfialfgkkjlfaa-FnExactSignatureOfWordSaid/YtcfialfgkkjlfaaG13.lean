/- Group words: contracts of SignatureOfWord, DepthOfWord of the program. -/
import Derived.Test.YtcfialfgkkjlfaaG12
set_option linter.unusedSimpArgs false
set_option linter.unusedVariables false
namespace Go.Sg
open Go.Sx
theorem allW_big {d n : Nat} (hn : 1 ≤ n) : d + 1 ≤ (allW d n).length := by
  rw [allW_len]
  have h : aheadN d 2 ≤ aheadN d (n + 1) := aheadN_mono (by omega)
  have e : aheadN d 2 = 1 + d := by simp [aheadN]
  omega
theorem stepOf_len (d : Nat) (x : Int) : (stepOf d x).length = d := by simp [stepOf]
theorem stepOf_small (d : Nat) (x : Int) : small 1000000000 (stepOf d x) := by
  intro y hy
  rcases List.mem_or_eq_of_mem_set hy with h | rfl
  · rw [(List.mem_replicate.1 h).2]; omega
  · unfold sgn; split <;> omega
/-- The table of a group word's signature; its terms. -/
def gwT (d n : Nat) (xs : List Int) : Tb := sigT d n (xs.map (stepOf d))
def gwS (d n : Int) (xs : List Int) : List Term := serT d.toNat n.toNat (gwT d.toNat n.toNat xs)
theorem lvl_iff {d n : Int} : Go.Proofs.Ytcfialfgkkjlfaa.lvl d n = true ↔ 1 ≤ d ∧ d ≤ 3 ∧ 1 ≤ n ∧ n ≤ 5 ∧ (d < 3 ∨ n < 5) := by
  simp [Go.Proofs.Ytcfialfgkkjlfaa.lvl, Go.Proofs.Ytcfialfgkkjlfaa.inB]
  omega
end Go.Sg
namespace Go.Proofs.Ytcfialfgkkjlfaa
open Go.RowKit Go.Sx Go.Sg
theorem SignatureOfWord_no (d n : Int) (xs : List Int) (v : Value) (w0 : World) (hR : Rd (sl 2 dInt) w0 xs [v]) (h : (isGW d xs && lvl d n) = false) :
    Calls Try.prog 21 #[.int .i64 d, .int .i64 n, v] w0 fun e w' => e = .returned (.tuple #[.agg #[.int .i64 0, .int .i64 0, .slice none 0 0], .int .i64 2]) ∧ St [] w0 w' [serV (.slice none 0 0) [] []] := by
  have S := St.start w0
  cases hg : isGW d xs
  all_goals (try cases hl : lvl d n)
  all_goals (try simp [hg, hl] at h)
  all_goals go_enter Try.func21, Try.ntmps21
  all_goals go_wp2_with (first
    | ((with_reducible refine s_box S (h := ?_)); clear S; intro b w S hcN; clear hcN) | ((with_reducible refine s_alloc S (h := ?_)); clear S; intro b w S hcN; clear hcN) | (with_reducible refine s_load S (h := ?_)) | (with_reducible refine s_loadA S (h := ?_)) | ((with_reducible refine s_store S (h := ?_)); clear S; intro w S)
    | (go_at_call 69; refine (IsGroupWord_ok d xs _ _ (S.rd hR)).mono ?_; rintro e w1 ⟨rfl, hc⟩; have S := S.step hc; clear hc)
    | (go_at_call 70; refine (isLevel_ok _ _ _).mono ?_; rintro e w1 ⟨rfl, hc⟩; have S := S.step hc; clear hc))
  all_goals refine s_ret2 S (h := ?_)
  all_goals exact ⟨rfl, S.nilOwn⟩
set_option maxRecDepth 100000 in
theorem SignatureOfWord_yes (d n : Int) (xs : List Int) (v : Value) (w0 : World) (hR : Rd (sl 2 dInt) w0 xs [v]) (hg : isGW d xs = true) (hl : lvl d n = true) (hb : (gwT d.toNat n.toNat xs).bad = false) :
    Calls Try.prog 21 #[.int .i64 d, .int .i64 n, v] w0 fun e w' => ∃ v bs, e = .returned (.tuple #[.agg #[.int .i64 d, .int .i64 n, v], .int .i64 0]) ∧ St [] w0 w' [serV v (gwS d n xs) bs] := by
  have S := St.start w0
  obtain ⟨hd1, hd2, hlen, hx⟩ := isGW_iff.1 hg
  obtain ⟨-, -, hn1, hn2, -⟩ := lvl_iff.1 hl
  obtain ⟨d, rfl⟩ := Int.eq_ofNat_of_zero_le (show 0 ≤ d by omega)
  obtain ⟨n, rfl⟩ := Int.eq_ofNat_of_zero_le (show 0 ≤ n by omega)
  have hd3 : d ≤ 3 := by omega
  have hn8 : n ≤ 8 := by omega
  have hbig : d + 1 ≤ (allW d n).length := allW_big (by omega)
  have hO : TOk d n (gwT d n xs) := TOk.sig hd3 hn8 _
  have hbig := hid hbig
  replace hb : Hid ((gwT d n xs).bad = false) := hid hb
  have hgs : Hid (gwS d n xs = serT d n (gwT d n xs)) := hid rfl
  have hx := hid hx
  go_enter Try.func21, Try.ntmps21
  go_wp2_with (first
    | (go_at_call 69; refine (IsGroupWord_ok d xs _ _ (S.rd hR)).mono ?_; rw [hg]; rintro e w1 ⟨rfl, hc⟩; have S := S.step hc; clear hc)
    | (go_at_call 70; refine (isLevel_ok _ _ _).mono ?_; rw [hl]; rintro e w1 ⟨rfl, hc⟩; have S := S.step hc; clear hc)
    | (go_at_call 72; refine (pathOfWord_ok d xs _ _ (S.rd hR) hd3 hlen hx.out).mono ?_; rintro e w1 ⟨v1, bs1, rfl, T⟩; have S := S.grow1 T; clear T)
    | (go_at_call 71; refine (signature_ok d n (xs.map (stepOf d)) _ _ (S.own_rd (.head _)) hd3 hn8 (by intro y hy; obtain ⟨z, _, rfl⟩ := List.mem_map.1 hy; rw [stepOf_len]; exact hbig.out) (by intro y hy; obtain ⟨z, _, rfl⟩ := List.mem_map.1 hy; exact stepOf_small d z)).mono ?_; rintro e w1 ⟨b2, v2, bs2, rfl, T⟩; replace T : St [] _ _ [tabC b2 d n v2 (gwT d n xs).bad, tabV v2 (gwT d n xs).vals bs2] := T; have S := S.grow2 T; clear T)
    | (go_at_call 73; refine (told_good _ d n _ (gwT d n xs) _ (TabR.of (t := gwT d n xs) S (by repeat (with_reducible first | exact List.mem_cons_self | apply List.mem_cons_of_mem)) (by repeat (with_reducible first | exact List.mem_cons_self | apply List.mem_cons_of_mem))) hO hb.out).mono ?_; rintro e w1 ⟨v3, bs3, rfl, T⟩; rw [← hgs.out] at T; have S := S.grow1 T; clear T; obtain ⟨A3, c3, rfl, -, -⟩ := own_slice S (.head _))
    | ((with_reducible refine s_box S (h := ?_)); clear S; intro b w S hcN; clear hcN) | ((with_reducible refine s_alloc S (h := ?_)); clear S; intro b w S hcN; clear hcN) | (with_reducible refine s_load S (h := ?_)) | (with_reducible refine s_loadA S (h := ?_)) | ((with_reducible refine s_store S (h := ?_)); clear S; intro w S))
  refine s_ret2 S (h := ?_)
  exact ⟨_, bs3, rfl, S.sel (by repeat (first | exact Sel.nil | (apply Sel.cons (by repeat (first | exact Rem.here | apply Rem.there)))))⟩
end Go.Proofs.Ytcfialfgkkjlfaa
