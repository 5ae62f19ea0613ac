/- Tables: contract of told. -/
import Derived.Test.YtcfialfgkkjlfaaG5a
set_option linter.unusedSimpArgs false
set_option linter.unusedVariables false
namespace Go.Proofs.Ytcfialfgkkjlfaa
open Go.RowKit Go.Sx Go.Sg
set_option maxRecDepth 100000 in
theorem told_good (b d n : Nat) (v : Value) (t : Tb) (w0 : World) (hT : TabR w0 b d n v t) (hO : TOk d n t) (hb : t.bad = false) :
    Calls Try.prog 73 #[.pointer (some ⟨b, 0, none⟩)] w0 fun e w' => ∃ v' bs, e = .returned (.tuple #[.agg #[.int .i64 d, .int .i64 n, v'], .int .i64 0]) ∧ St [] w0 w' [serV v' (serT d n t) bs] := by
  have S := St.start w0
  have h3 := hT.hb
  rw [hb] at h3
  replace hb := hid hb
  generalize hx : serT d n t = xs
  replace hx := hid hx
  go_enter Try.func73, Try.ntmps73
  go_wp2_with (first
    | ((with_reducible refine gd 7 ?_); refine s_ldE rfl (h3.step S.chg) rfl ?_)
    | (go_at_call 132; refine (series_ok _ d n v t _ (hT.step S.chg) hO).mono ?_; rintro e w1 ⟨v2, bs2, rfl, T⟩; rw [hx.out] at T; have S := S.grow1 T; clear T; obtain ⟨A2, c2, rfl, -, -⟩ := own_slice S (.head _))
    | ((with_reducible refine s_box S (h := ?_)); clear S; intro b w S hcN; clear hcN) | ((with_reducible refine s_alloc S (h := ?_)); clear S; intro b w S hcN; clear hcN) | (with_reducible refine s_load S (h := ?_)) | (with_reducible refine s_loadA S (h := ?_)) | ((with_reducible refine s_store S (h := ?_)); clear S; intro w S))
  refine s_ret2 S (h := ?_)
  exact ⟨_, bs2, rfl, S.sel (by repeat (first | exact Sel.nil | (apply Sel.cons (by repeat (first | exact Rem.here | apply Rem.there)))))⟩
theorem told_bad (b d n : Nat) (v : Value) (t : Tb) (w0 : World) (hT : TabR w0 b d n v t) (hb : t.bad = true) :
    Calls Try.prog 73 #[.pointer (some ⟨b, 0, none⟩)] w0 fun e w' => ∃ v' bs, e = .returned (.tuple #[.agg #[.int .i64 0, .int .i64 0, v'], .int .i64 3]) ∧ St [] w0 w' [serV v' [] bs] := by
  have S := St.start w0
  have h3 := hT.hb
  rw [hb] at h3
  replace hb := hid hb
  go_enter Try.func73, Try.ntmps73
  go_wp2_with (first
    | ((with_reducible refine gd 7 ?_); refine s_ldE rfl (h3.step S.chg) rfl ?_)
    | ((with_reducible refine s_box S (h := ?_)); clear S; intro b w S hcN; clear hcN) | ((with_reducible refine s_alloc S (h := ?_)); clear S; intro b w S hcN; clear hcN) | (with_reducible refine s_load S (h := ?_)) | (with_reducible refine s_loadA S (h := ?_)) | ((with_reducible refine s_store S (h := ?_)); clear S; intro w S))
  refine s_ret2 S (h := ?_)
  exact ⟨_, [], rfl, S.nilOwn⟩
end Go.Proofs.Ytcfialfgkkjlfaa
