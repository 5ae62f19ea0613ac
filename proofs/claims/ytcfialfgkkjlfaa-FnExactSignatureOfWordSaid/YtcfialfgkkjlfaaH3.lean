/- Contract of the reference: l09Step. -/
import Derived.Test.YtcfialfgkkjlfaaH2
import Derived.Test.YtcfialfgkkjlfaaA14
set_option linter.unusedSimpArgs false
set_option linter.unusedVariables false
namespace Go.Sg
open Go.Sx
def inO (le : ByteArray) (sg : Int) : Nat → List Term → ByteArray → Frac → Nat → Option (List Term)
  | 0, out, _, _, _ => some out
  | f + 1, out, w, a, n => (putL out w a).bind fun o => (fr (a.num * sg) (a.den * n)).bind fun a' => inO le sg f o (w ++ le) a' (n + 1)
def stepO (L : Nat) (le : ByteArray) (sg : Int) : List Term → List Term → Option (List Term)
  | [], out => some out
  | t :: ts, out => (inO le sg (L + 1 - t.word.size) out t.word t.val 1).bind (stepO L le sg ts)
theorem putMid_mem {w : ByteArray} {a : Frac} {t : Term} (h : t ∈ putMid w a) : t = ⟨w, a⟩ := by
  unfold putMid at h
  split at h
  · cases h
  · exact List.mem_singleton.1 h
theorem putMid_len (w : ByteArray) (a : Frac) : (putMid w a).length ≤ 1 := by unfold putMid; split <;> simp
theorem putL_mem {ts o : List Term} {w : ByteArray} {a : Frac} (h : putL ts w a = some o) (ha : isF a = true) : ∀ t ∈ o, t ∈ ts ∨ (t.word = w ∧ isF t.val = true) := by
  have key : ∀ (k m : Nat) (x : Frac), isF x = true → ∀ t ∈ ts.take k ++ putMid w x ++ ts.drop m, t ∈ ts ∨ (t.word = w ∧ isF t.val = true) := by
    intro k m x hx t ht
    rcases List.mem_append.1 ht with ht | ht
    · rcases List.mem_append.1 ht with ht | ht
      · exact .inl (List.mem_of_mem_take ht)
      · rw [putMid_mem ht]; exact .inr ⟨rfl, hx⟩
    · exact .inl (List.mem_of_mem_drop ht)
  unfold putL at h
  split at h
  · split at h
    · obtain ⟨s, hs, rfl⟩ := Option.map_eq_some_iff.1 h
      exact key _ _ s (fr_isF hs)
    · injection h with h; subst h; exact key _ _ a ha
  · injection h with h; subst h; exact key _ _ a ha
theorem putL_len {ts o : List Term} {w : ByteArray} {a : Frac} (h : putL ts w a = some o) : o.length ≤ ts.length + 1 := by
  have key : ∀ (k m : Nat) (x : Frac), k ≤ m → (ts.take k ++ putMid w x ++ ts.drop m).length ≤ ts.length + 1 := by
    intro k m x hk
    have := putMid_len w x
    simp only [List.length_append, List.length_take, List.length_drop]
    omega
  unfold putL at h
  split at h
  · split at h
    · obtain ⟨s, hs, rfl⟩ := Option.map_eq_some_iff.1 h
      exact key _ _ s (by omega)
    · injection h with h; subst h; exact key _ _ a (Nat.le_refl _)
  · injection h with h; subst h; exact key _ _ a (Nat.le_refl _)
theorem sgn_or (x : Int) : sgn x = 1 ∨ sgn x = -1 := by unfold sgn; split <;> simp
theorem inO_succ {le : ByteArray} {sg : Int} {f : Nat} {out o1 : List Term} {w : ByteArray} {a : Frac} {n : Nat} (h : inO le sg (f + 1) out w a n = some o1) : ∃ o a', putL out w a = some o ∧ fr (a.num * sg) (a.den * n) = some a' ∧ inO le sg f o (w ++ le) a' (n + 1) = some o1 := by
  unfold inO at h
  obtain ⟨o, h1, h⟩ := Option.bind_eq_some_iff.1 h
  obtain ⟨a', h2, h⟩ := Option.bind_eq_some_iff.1 h
  exact ⟨o, a', h1, h2, h⟩
end Go.Sg
namespace Go.Proofs.Ytcfialfgkkjlfaa
open Go.RowKit Go.Sx Go.Sg
theorem l01Frac_okE {N D : Int} (n d : Int) (w : World) (h0 : -4611686018427387904 ≤ n) (h1 : n ≤ 4611686018427387904) (h2 : -4611686018427387904 ≤ d) (h3 : d ≤ 4611686018427387904) (hN : N = n) (hD : D = d) :
    Calls Try.prog 113 #[.int .i64 N, .int .i64 D] w fun e w' => e = .returned (.tuple #[.agg #[.int .i64 (frV n d).num, .int .i64 (frV n d).den], .bool (fr n d).isSome]) ∧ Chg [] w w' := by
  subst hN hD
  exact l01Frac_ok _ _ w h0 h1 h2 h3
theorem l01Empty_ok2 (d n : Int) (A : Option Addr) (m c : Nat) (w0 : World) : Calls Try.prog 80 #[.agg #[.int .i64 d, .int .i64 n, .slice A m c]] w0 fun e w' => ∃ b : Nat, e = .returned (.agg #[.int .i64 d, .int .i64 n, .slice (some ⟨b, 0, none⟩) 0 0]) ∧ St [] w0 w' [serV (.slice (some ⟨b, 0, none⟩) 0 0) [] [b]] := by
  have S := St.start w0
  go_enter Try.func80, Try.ntmps80
  go_wp2_with (first
    | ((with_reducible refine gd 7 ?_); refine s_bs0 (d := dTerm) S ?_; clear S; intro b w1 S hcN; clear hcN)
    | ((with_reducible refine s_box S (h := ?_)); clear S; intro b w S hcN; clear hcN) | ((with_reducible refine s_alloc S (h := ?_)); clear S; intro b w S hcN; clear hcN) | (with_reducible refine s_load S (h := ?_)) | (with_reducible refine s_loadA S (h := ?_)) | ((with_reducible refine s_store S (h := ?_)); clear S; intro w S))
  refine s_ret1 S (h := ?_)
  exact ⟨b, rfl, S.sel (by repeat (first | exact Sel.nil | (apply Sel.cons (by repeat (first | exact Rem.here | apply Rem.there)))))⟩
set_option maxRecDepth 100000 in
set_option maxHeartbeats 2000000 in
theorem l09Step_ok (d L : Nat) (xs : List Term) (x : Int) (v : Value) (w0 : World) (hR : Rd (sl 98 dTerm) w0 xs [v]) (hd : d ≤ 3) (hL : L ≤ 8) (hx0 : x ≠ 0) (hx1 : -3 ≤ x) (hx2 : x ≤ 3) (hlen : xs.length ≤ 1000) (hts : ∀ t ∈ xs, isF t.val = true ∧ t.word.size ≤ L) (r : List Term) (hr : stepO L (letB ((x.natAbs : Int) - 1)) (sgn x) xs [] = some r) :
    Calls Try.prog 124 #[.agg #[.int .i64 d, .int .i64 L, v], .int .i64 x] w0 fun e w' => ∃ v bs, e = .returned (.agg #[.int .i64 d, .int .i64 L, v]) ∧ St [] w0 w' [serV v r bs] := by
  have S := St.start w0
  obtain ⟨A, c, rfl, hc1, hc2⟩ := hR.slice
  unfold maxLen at hc2
  have hmx : (if x < -x then -x else x) = (x.natAbs : Int) := by split <;> omega
  have hab1 : 1 ≤ (x.natAbs : Int) := by omega
  have hab2 : (x.natAbs : Int) ≤ 3 := by omega
  replace hmx := hid hmx
  have hle2 : (⟨#[UInt8.ofNat (48 + (x.natAbs : Int) - 1).toNat]⟩ : ByteArray) = letB ((x.natAbs : Int) - 1) := by unfold letB; rw [show 48 + (x.natAbs : Int) - 1 = 48 + ((x.natAbs : Int) - 1) from by omega]
  generalize hle : letB ((x.natAbs : Int) - 1) = le at *
  replace hle2 := hid hle2
  have hls : le.size = 1 := by rw [← hle]; rfl
  replace hle := hid hle
  replace hts := hid hts
  go_enter Try.func124, Try.ntmps124
  go_wp2_with (first
    | ((with_reducible refine s_box S (h := ?_)); clear S; intro b2 w S hcN; clear hcN)
    | ((with_reducible refine s_alloc S (h := ?_)); clear S; intro b4 w S hcN; clear hcN))
  refine m_startS 15 [12] [0, 2, 3, 4, 5, 6, 7, 8] S ?_
  clear S; intro w hQ S hcD
  (repeat (first | ((with_reducible apply m_P hQ); (case hn => repeat (with_reducible first | exact .zero | apply Nth.succ)); (case hc => kernel_rfl); (case hy => first | exact y_convU (by kernel_rfl) (by kernel_rfl) rfl (by omega) (by omega) | (apply y_negI <;> first | rfl | omega) | exact y_maxI rfl rfl hmx.out | (apply y_addI <;> first | rfl | omega) | (apply y_subI <;> first | rfl | omega) | (apply y_quo <;> first | rfl | assumption | omega) | (apply y_pure <;> first | rfl | (intro w'; go_simp; with_reducible rfl))); (case' h => simp only [Act.put, List.setIfInBounds_toArray, List.set_cons_zero, List.set_cons_succ])) | ((with_reducible apply m_R hQ); (case hn => repeat (with_reducible first | exact .zero | apply Nth.succ)); (case hc => kernel_rfl); (case hy => first | exact y_loadA S | exact y_load S | exact y_convU (by kernel_rfl) (by kernel_rfl) rfl (by omega) (by omega) | (apply y_negI <;> first | rfl | omega) | exact y_maxI rfl rfl hmx.out | (apply y_addI <;> first | rfl | omega) | (apply y_subI <;> first | rfl | omega)); (case' h => simp only [Act.put, List.setIfInBounds_toArray, List.set_cons_zero, List.set_cons_succ]))))
  apply m_join3
  case br =>
    intro hJ
    refine m_G3 1 9 11 [] [] [] (by kernel_rfl) (by repeat (with_reducible first | exact .zero | apply Nth.succ)) (by repeat (with_reducible first | exact .zero | apply Nth.succ)) (by repeat (with_reducible first | exact .zero | apply Nth.succ)) ?_ ?_ ?_
    · go_wp2_with (go_at_call 80; refine (l01Empty_ok2 d L A _ c _).mono ?_; rintro e w1 ⟨b17, rfl, T⟩; have hcN := T.chg; have S := S.grow1 T; clear T)
      refine ⟨.inr hcN, ?_⟩; clear hcN; simp only [Act.put, List.setIfInBounds_toArray, List.set_cons_zero, List.set_cons_succ]
      refine m_G2 9 11 [] [] (by kernel_rfl) (by repeat (with_reducible first | exact .zero | apply Nth.succ)) (by repeat (with_reducible first | exact .zero | apply Nth.succ)) ?_ ?_
      · go_wp2_with ((with_reducible refine gd 25 ?_); refine s_bs (cs := [.int .u8 (48 + (x.natAbs : Int) - 1)]) S ?_; clear S; intro b25 w1 S hcN)
        refine ⟨.inr hcN, ?_⟩; clear hcN; simp only [Act.put, List.setIfInBounds_toArray, List.set_cons_zero, List.set_cons_succ]
        refine m_G2 10 11 [] [] (by kernel_rfl) (by repeat (with_reducible first | exact .zero | apply Nth.succ)) (by repeat (with_reducible first | exact .zero | apply Nth.succ)) ?_ ?_
        · go_wp2_with ((with_reducible refine gd 26 ?_); refine s_b2sE S (by kernel_rfl) (by kernel_rfl) rfl (n := 48 + (x.natAbs : Int) - 1) (by repeat (with_reducible first | exact List.mem_cons_self | apply List.mem_cons_of_mem)) hle2.out ?_)
          refine ⟨.inr (Chg.refl _ _), ?_⟩; simp only [Act.put, List.setIfInBounds_toArray, List.set_cons_zero, List.set_cons_succ]
          refine m_G 11 [] (by kernel_rfl) (by repeat (with_reducible first | exact .zero | apply Nth.succ)) ?_
          go_wp2_with ((with_reducible refine s_alloc S (h := ?_)); clear S; intro b5 w S hcN)
          refine ⟨.inr hcN, ?_⟩; clear hcN; simp only [Act.put, List.setIfInBounds_toArray, List.set_cons_zero, List.set_cons_succ]
          refine m_G 12 [13, 14] (by kernel_rfl) (by repeat (with_reducible first | exact .zero | apply Nth.succ)) ?_
          go_wp2_with ((first | ((with_reducible refine s_box S (h := ?_)); clear S; intro b w S hcN; clear hcN) | ((with_reducible refine s_alloc S (h := ?_)); clear S; intro b w S hcN; clear hcN) | (with_reducible refine s_load S (h := ?_)) | (with_reducible refine s_loadA S (h := ?_)) | ((with_reducible refine s_store S (h := ?_)); clear S; intro w S)))
          refine ⟨.inl rfl, ?_⟩; simp only [Act.put, List.setIfInBounds_toArray, List.set_cons_zero, List.set_cons_succ]
          (repeat (first | ((with_reducible apply m_P hQ); (case hn => repeat (with_reducible first | exact .zero | apply Nth.succ)); (case hc => kernel_rfl); (case hy => first | exact y_convU (by kernel_rfl) (by kernel_rfl) rfl (by omega) (by omega) | (apply y_negI <;> first | rfl | omega) | exact y_maxI rfl rfl hmx.out | (apply y_addI <;> first | rfl | omega) | (apply y_subI <;> first | rfl | omega) | (apply y_quo <;> first | rfl | assumption | omega) | (apply y_pure <;> first | rfl | (intro w'; go_simp; with_reducible rfl))); (case' h => simp only [Act.put, List.setIfInBounds_toArray, List.set_cons_zero, List.set_cons_succ])) | ((with_reducible apply m_R hQ); (case hn => repeat (with_reducible first | exact .zero | apply Nth.succ)); (case hc => kernel_rfl); (case hy => first | exact y_loadA S | exact y_load S | exact y_convU (by kernel_rfl) (by kernel_rfl) rfl (by omega) (by omega) | (apply y_negI <;> first | rfl | omega) | exact y_maxI rfl rfl hmx.out | (apply y_addI <;> first | rfl | omega) | (apply y_subI <;> first | rfl | omega)); (case' h => simp only [Act.put, List.setIfInBounds_toArray, List.set_cons_zero, List.set_cons_succ]))))
          refine m_end (by kernel_rfl) ?_
          exact hJ b5 b25 b17 _ S
        · go_wp2_with ((with_reducible refine s_alloc S (h := ?_)); clear S; intro b5 w S hcN)
          refine ⟨.inr hcN, ?_⟩; clear hcN; simp only [Act.put, List.setIfInBounds_toArray, List.set_cons_zero, List.set_cons_succ]
          refine m_G2 10 12 [] [] (by kernel_rfl) (by repeat (with_reducible first | exact .zero | apply Nth.succ)) (by repeat (with_reducible first | exact .zero | apply Nth.succ)) ?_ ?_
          · go_wp2_with ((with_reducible refine gd 26 ?_); refine s_b2sE S (by kernel_rfl) (by kernel_rfl) rfl (n := 48 + (x.natAbs : Int) - 1) (by repeat (with_reducible first | exact List.mem_cons_self | apply List.mem_cons_of_mem)) hle2.out ?_)
            refine ⟨.inr (Chg.refl _ _), ?_⟩; simp only [Act.put, List.setIfInBounds_toArray, List.set_cons_zero, List.set_cons_succ]
            refine m_G 12 [13, 14] (by kernel_rfl) (by repeat (with_reducible first | exact .zero | apply Nth.succ)) ?_
            go_wp2_with ((first | ((with_reducible refine s_box S (h := ?_)); clear S; intro b w S hcN; clear hcN) | ((with_reducible refine s_alloc S (h := ?_)); clear S; intro b w S hcN; clear hcN) | (with_reducible refine s_load S (h := ?_)) | (with_reducible refine s_loadA S (h := ?_)) | ((with_reducible refine s_store S (h := ?_)); clear S; intro w S)))
            refine ⟨.inl rfl, ?_⟩; simp only [Act.put, List.setIfInBounds_toArray, List.set_cons_zero, List.set_cons_succ]
            (repeat (first | ((with_reducible apply m_P hQ); (case hn => repeat (with_reducible first | exact .zero | apply Nth.succ)); (case hc => kernel_rfl); (case hy => first | exact y_convU (by kernel_rfl) (by kernel_rfl) rfl (by omega) (by omega) | (apply y_negI <;> first | rfl | omega) | exact y_maxI rfl rfl hmx.out | (apply y_addI <;> first | rfl | omega) | (apply y_subI <;> first | rfl | omega) | (apply y_quo <;> first | rfl | assumption | omega) | (apply y_pure <;> first | rfl | (intro w'; go_simp; with_reducible rfl))); (case' h => simp only [Act.put, List.setIfInBounds_toArray, List.set_cons_zero, List.set_cons_succ])) | ((with_reducible apply m_R hQ); (case hn => repeat (with_reducible first | exact .zero | apply Nth.succ)); (case hc => kernel_rfl); (case hy => first | exact y_loadA S | exact y_load S | exact y_convU (by kernel_rfl) (by kernel_rfl) rfl (by omega) (by omega) | (apply y_negI <;> first | rfl | omega) | exact y_maxI rfl rfl hmx.out | (apply y_addI <;> first | rfl | omega) | (apply y_subI <;> first | rfl | omega)); (case' h => simp only [Act.put, List.setIfInBounds_toArray, List.set_cons_zero, List.set_cons_succ]))))
            refine m_end (by kernel_rfl) ?_
            exact hJ b5 b25 b17 _ (S.sel (by repeat (first | exact Sel.nil | (apply Sel.cons (by repeat (first | exact Rem.here | apply Rem.there))))))
          · go_wp2_with ((first | ((with_reducible refine s_box S (h := ?_)); clear S; intro b w S hcN; clear hcN) | ((with_reducible refine s_alloc S (h := ?_)); clear S; intro b w S hcN; clear hcN) | (with_reducible refine s_load S (h := ?_)) | (with_reducible refine s_loadA S (h := ?_)) | ((with_reducible refine s_store S (h := ?_)); clear S; intro w S)))
            refine ⟨.inl rfl, ?_⟩; simp only [Act.put, List.setIfInBounds_toArray, List.set_cons_zero, List.set_cons_succ]
            refine m_G 10 [13, 14] (by kernel_rfl) (by repeat (with_reducible first | exact .zero | apply Nth.succ)) ?_
            go_wp2_with ((with_reducible refine gd 26 ?_); refine s_b2sE S (by kernel_rfl) (by kernel_rfl) rfl (n := 48 + (x.natAbs : Int) - 1) (by repeat (with_reducible first | exact List.mem_cons_self | apply List.mem_cons_of_mem)) hle2.out ?_)
            refine ⟨.inr (Chg.refl _ _), ?_⟩; simp only [Act.put, List.setIfInBounds_toArray, List.set_cons_zero, List.set_cons_succ]
            (repeat (first | ((with_reducible apply m_P hQ); (case hn => repeat (with_reducible first | exact .zero | apply Nth.succ)); (case hc => kernel_rfl); (case hy => first | exact y_convU (by kernel_rfl) (by kernel_rfl) rfl (by omega) (by omega) | (apply y_negI <;> first | rfl | omega) | exact y_maxI rfl rfl hmx.out | (apply y_addI <;> first | rfl | omega) | (apply y_subI <;> first | rfl | omega) | (apply y_quo <;> first | rfl | assumption | omega) | (apply y_pure <;> first | rfl | (intro w'; go_simp; with_reducible rfl))); (case' h => simp only [Act.put, List.setIfInBounds_toArray, List.set_cons_zero, List.set_cons_succ])) | ((with_reducible apply m_R hQ); (case hn => repeat (with_reducible first | exact .zero | apply Nth.succ)); (case hc => kernel_rfl); (case hy => first | exact y_loadA S | exact y_load S | exact y_convU (by kernel_rfl) (by kernel_rfl) rfl (by omega) (by omega) | (apply y_negI <;> first | rfl | omega) | exact y_maxI rfl rfl hmx.out | (apply y_addI <;> first | rfl | omega) | (apply y_subI <;> first | rfl | omega)); (case' h => simp only [Act.put, List.setIfInBounds_toArray, List.set_cons_zero, List.set_cons_succ]))))
            refine m_end (by kernel_rfl) ?_
            exact hJ b5 b25 b17 _ (S.sel (by repeat (first | exact Sel.nil | (apply Sel.cons (by repeat (first | exact Rem.here | apply Rem.there))))))
      · go_wp2_with ((with_reducible refine s_alloc S (h := ?_)); clear S; intro b5 w S hcN)
        refine ⟨.inr hcN, ?_⟩; clear hcN; simp only [Act.put, List.setIfInBounds_toArray, List.set_cons_zero, List.set_cons_succ]
        refine m_G2 9 12 [] [] (by kernel_rfl) (by repeat (with_reducible first | exact .zero | apply Nth.succ)) (by repeat (with_reducible first | exact .zero | apply Nth.succ)) ?_ ?_
        · go_wp2_with ((with_reducible refine gd 25 ?_); refine s_bs (cs := [.int .u8 (48 + (x.natAbs : Int) - 1)]) S ?_; clear S; intro b25 w1 S hcN)
          refine ⟨.inr hcN, ?_⟩; clear hcN; simp only [Act.put, List.setIfInBounds_toArray, List.set_cons_zero, List.set_cons_succ]
          refine m_G2 10 12 [] [] (by kernel_rfl) (by repeat (with_reducible first | exact .zero | apply Nth.succ)) (by repeat (with_reducible first | exact .zero | apply Nth.succ)) ?_ ?_
          · go_wp2_with ((with_reducible refine gd 26 ?_); refine s_b2sE S (by kernel_rfl) (by kernel_rfl) rfl (n := 48 + (x.natAbs : Int) - 1) (by repeat (with_reducible first | exact List.mem_cons_self | apply List.mem_cons_of_mem)) hle2.out ?_)
            refine ⟨.inr (Chg.refl _ _), ?_⟩; simp only [Act.put, List.setIfInBounds_toArray, List.set_cons_zero, List.set_cons_succ]
            refine m_G 12 [13, 14] (by kernel_rfl) (by repeat (with_reducible first | exact .zero | apply Nth.succ)) ?_
            go_wp2_with ((first | ((with_reducible refine s_box S (h := ?_)); clear S; intro b w S hcN; clear hcN) | ((with_reducible refine s_alloc S (h := ?_)); clear S; intro b w S hcN; clear hcN) | (with_reducible refine s_load S (h := ?_)) | (with_reducible refine s_loadA S (h := ?_)) | ((with_reducible refine s_store S (h := ?_)); clear S; intro w S)))
            refine ⟨.inl rfl, ?_⟩; simp only [Act.put, List.setIfInBounds_toArray, List.set_cons_zero, List.set_cons_succ]
            (repeat (first | ((with_reducible apply m_P hQ); (case hn => repeat (with_reducible first | exact .zero | apply Nth.succ)); (case hc => kernel_rfl); (case hy => first | exact y_convU (by kernel_rfl) (by kernel_rfl) rfl (by omega) (by omega) | (apply y_negI <;> first | rfl | omega) | exact y_maxI rfl rfl hmx.out | (apply y_addI <;> first | rfl | omega) | (apply y_subI <;> first | rfl | omega) | (apply y_quo <;> first | rfl | assumption | omega) | (apply y_pure <;> first | rfl | (intro w'; go_simp; with_reducible rfl))); (case' h => simp only [Act.put, List.setIfInBounds_toArray, List.set_cons_zero, List.set_cons_succ])) | ((with_reducible apply m_R hQ); (case hn => repeat (with_reducible first | exact .zero | apply Nth.succ)); (case hc => kernel_rfl); (case hy => first | exact y_loadA S | exact y_load S | exact y_convU (by kernel_rfl) (by kernel_rfl) rfl (by omega) (by omega) | (apply y_negI <;> first | rfl | omega) | exact y_maxI rfl rfl hmx.out | (apply y_addI <;> first | rfl | omega) | (apply y_subI <;> first | rfl | omega)); (case' h => simp only [Act.put, List.setIfInBounds_toArray, List.set_cons_zero, List.set_cons_succ]))))
            refine m_end (by kernel_rfl) ?_
            exact hJ b5 b25 b17 _ (S.sel (by repeat (first | exact Sel.nil | (apply Sel.cons (by repeat (first | exact Rem.here | apply Rem.there))))))
          · go_wp2_with ((first | ((with_reducible refine s_box S (h := ?_)); clear S; intro b w S hcN; clear hcN) | ((with_reducible refine s_alloc S (h := ?_)); clear S; intro b w S hcN; clear hcN) | (with_reducible refine s_load S (h := ?_)) | (with_reducible refine s_loadA S (h := ?_)) | ((with_reducible refine s_store S (h := ?_)); clear S; intro w S)))
            refine ⟨.inl rfl, ?_⟩; simp only [Act.put, List.setIfInBounds_toArray, List.set_cons_zero, List.set_cons_succ]
            refine m_G 10 [13, 14] (by kernel_rfl) (by repeat (with_reducible first | exact .zero | apply Nth.succ)) ?_
            go_wp2_with ((with_reducible refine gd 26 ?_); refine s_b2sE S (by kernel_rfl) (by kernel_rfl) rfl (n := 48 + (x.natAbs : Int) - 1) (by repeat (with_reducible first | exact List.mem_cons_self | apply List.mem_cons_of_mem)) hle2.out ?_)
            refine ⟨.inr (Chg.refl _ _), ?_⟩; simp only [Act.put, List.setIfInBounds_toArray, List.set_cons_zero, List.set_cons_succ]
            (repeat (first | ((with_reducible apply m_P hQ); (case hn => repeat (with_reducible first | exact .zero | apply Nth.succ)); (case hc => kernel_rfl); (case hy => first | exact y_convU (by kernel_rfl) (by kernel_rfl) rfl (by omega) (by omega) | (apply y_negI <;> first | rfl | omega) | exact y_maxI rfl rfl hmx.out | (apply y_addI <;> first | rfl | omega) | (apply y_subI <;> first | rfl | omega) | (apply y_quo <;> first | rfl | assumption | omega) | (apply y_pure <;> first | rfl | (intro w'; go_simp; with_reducible rfl))); (case' h => simp only [Act.put, List.setIfInBounds_toArray, List.set_cons_zero, List.set_cons_succ])) | ((with_reducible apply m_R hQ); (case hn => repeat (with_reducible first | exact .zero | apply Nth.succ)); (case hc => kernel_rfl); (case hy => first | exact y_loadA S | exact y_load S | exact y_convU (by kernel_rfl) (by kernel_rfl) rfl (by omega) (by omega) | (apply y_negI <;> first | rfl | omega) | exact y_maxI rfl rfl hmx.out | (apply y_addI <;> first | rfl | omega) | (apply y_subI <;> first | rfl | omega)); (case' h => simp only [Act.put, List.setIfInBounds_toArray, List.set_cons_zero, List.set_cons_succ]))))
            refine m_end (by kernel_rfl) ?_
            exact hJ b5 b25 b17 _ (S.sel (by repeat (first | exact Sel.nil | (apply Sel.cons (by repeat (first | exact Rem.here | apply Rem.there))))))
        · go_wp2_with ((first | ((with_reducible refine s_box S (h := ?_)); clear S; intro b w S hcN; clear hcN) | ((with_reducible refine s_alloc S (h := ?_)); clear S; intro b w S hcN; clear hcN) | (with_reducible refine s_load S (h := ?_)) | (with_reducible refine s_loadA S (h := ?_)) | ((with_reducible refine s_store S (h := ?_)); clear S; intro w S)))
          refine ⟨.inl rfl, ?_⟩; simp only [Act.put, List.setIfInBounds_toArray, List.set_cons_zero, List.set_cons_succ]
          refine m_G 9 [] (by kernel_rfl) (by repeat (with_reducible first | exact .zero | apply Nth.succ)) ?_
          go_wp2_with ((with_reducible refine gd 25 ?_); refine s_bs (cs := [.int .u8 (48 + (x.natAbs : Int) - 1)]) S ?_; clear S; intro b25 w1 S hcN)
          refine ⟨.inr hcN, ?_⟩; clear hcN; simp only [Act.put, List.setIfInBounds_toArray, List.set_cons_zero, List.set_cons_succ]
          refine m_G 10 [13, 14] (by kernel_rfl) (by repeat (with_reducible first | exact .zero | apply Nth.succ)) ?_
          go_wp2_with ((with_reducible refine gd 26 ?_); refine s_b2sE S (by kernel_rfl) (by kernel_rfl) rfl (n := 48 + (x.natAbs : Int) - 1) (by repeat (with_reducible first | exact List.mem_cons_self | apply List.mem_cons_of_mem)) hle2.out ?_)
          refine ⟨.inr (Chg.refl _ _), ?_⟩; simp only [Act.put, List.setIfInBounds_toArray, List.set_cons_zero, List.set_cons_succ]
          (repeat (first | ((with_reducible apply m_P hQ); (case hn => repeat (with_reducible first | exact .zero | apply Nth.succ)); (case hc => kernel_rfl); (case hy => first | exact y_convU (by kernel_rfl) (by kernel_rfl) rfl (by omega) (by omega) | (apply y_negI <;> first | rfl | omega) | exact y_maxI rfl rfl hmx.out | (apply y_addI <;> first | rfl | omega) | (apply y_subI <;> first | rfl | omega) | (apply y_quo <;> first | rfl | assumption | omega) | (apply y_pure <;> first | rfl | (intro w'; go_simp; with_reducible rfl))); (case' h => simp only [Act.put, List.setIfInBounds_toArray, List.set_cons_zero, List.set_cons_succ])) | ((with_reducible apply m_R hQ); (case hn => repeat (with_reducible first | exact .zero | apply Nth.succ)); (case hc => kernel_rfl); (case hy => first | exact y_loadA S | exact y_load S | exact y_convU (by kernel_rfl) (by kernel_rfl) rfl (by omega) (by omega) | (apply y_negI <;> first | rfl | omega) | exact y_maxI rfl rfl hmx.out | (apply y_addI <;> first | rfl | omega) | (apply y_subI <;> first | rfl | omega)); (case' h => simp only [Act.put, List.setIfInBounds_toArray, List.set_cons_zero, List.set_cons_succ]))))
          refine m_end (by kernel_rfl) ?_
          exact hJ b5 b25 b17 _ (S.sel (by repeat (first | exact Sel.nil | (apply Sel.cons (by repeat (first | exact Rem.here | apply Rem.there))))))
    · go_wp2_with ((with_reducible refine gd 25 ?_); refine s_bs (cs := [.int .u8 (48 + (x.natAbs : Int) - 1)]) S ?_; clear S; intro b25 w1 S hcN)
      refine ⟨.inr hcN, ?_⟩; clear hcN; simp only [Act.put, List.setIfInBounds_toArray, List.set_cons_zero, List.set_cons_succ]
      refine m_G3 1 10 11 [] [] [] (by kernel_rfl) (by repeat (with_reducible first | exact .zero | apply Nth.succ)) (by repeat (with_reducible first | exact .zero | apply Nth.succ)) (by repeat (with_reducible first | exact .zero | apply Nth.succ)) ?_ ?_ ?_
      · go_wp2_with (go_at_call 80; refine (l01Empty_ok2 d L A _ c _).mono ?_; rintro e w1 ⟨b17, rfl, T⟩; have hcN := T.chg; have S := S.grow1 T; clear T)
        refine ⟨.inr hcN, ?_⟩; clear hcN; simp only [Act.put, List.setIfInBounds_toArray, List.set_cons_zero, List.set_cons_succ]
        refine m_G2 10 11 [] [] (by kernel_rfl) (by repeat (with_reducible first | exact .zero | apply Nth.succ)) (by repeat (with_reducible first | exact .zero | apply Nth.succ)) ?_ ?_
        · go_wp2_with ((with_reducible refine gd 26 ?_); refine s_b2sE S (by kernel_rfl) (by kernel_rfl) rfl (n := 48 + (x.natAbs : Int) - 1) (by repeat (with_reducible first | exact List.mem_cons_self | apply List.mem_cons_of_mem)) hle2.out ?_)
          refine ⟨.inr (Chg.refl _ _), ?_⟩; simp only [Act.put, List.setIfInBounds_toArray, List.set_cons_zero, List.set_cons_succ]
          refine m_G 11 [] (by kernel_rfl) (by repeat (with_reducible first | exact .zero | apply Nth.succ)) ?_
          go_wp2_with ((with_reducible refine s_alloc S (h := ?_)); clear S; intro b5 w S hcN)
          refine ⟨.inr hcN, ?_⟩; clear hcN; simp only [Act.put, List.setIfInBounds_toArray, List.set_cons_zero, List.set_cons_succ]
          refine m_G 12 [13, 14] (by kernel_rfl) (by repeat (with_reducible first | exact .zero | apply Nth.succ)) ?_
          go_wp2_with ((first | ((with_reducible refine s_box S (h := ?_)); clear S; intro b w S hcN; clear hcN) | ((with_reducible refine s_alloc S (h := ?_)); clear S; intro b w S hcN; clear hcN) | (with_reducible refine s_load S (h := ?_)) | (with_reducible refine s_loadA S (h := ?_)) | ((with_reducible refine s_store S (h := ?_)); clear S; intro w S)))
          refine ⟨.inl rfl, ?_⟩; simp only [Act.put, List.setIfInBounds_toArray, List.set_cons_zero, List.set_cons_succ]
          (repeat (first | ((with_reducible apply m_P hQ); (case hn => repeat (with_reducible first | exact .zero | apply Nth.succ)); (case hc => kernel_rfl); (case hy => first | exact y_convU (by kernel_rfl) (by kernel_rfl) rfl (by omega) (by omega) | (apply y_negI <;> first | rfl | omega) | exact y_maxI rfl rfl hmx.out | (apply y_addI <;> first | rfl | omega) | (apply y_subI <;> first | rfl | omega) | (apply y_quo <;> first | rfl | assumption | omega) | (apply y_pure <;> first | rfl | (intro w'; go_simp; with_reducible rfl))); (case' h => simp only [Act.put, List.setIfInBounds_toArray, List.set_cons_zero, List.set_cons_succ])) | ((with_reducible apply m_R hQ); (case hn => repeat (with_reducible first | exact .zero | apply Nth.succ)); (case hc => kernel_rfl); (case hy => first | exact y_loadA S | exact y_load S | exact y_convU (by kernel_rfl) (by kernel_rfl) rfl (by omega) (by omega) | (apply y_negI <;> first | rfl | omega) | exact y_maxI rfl rfl hmx.out | (apply y_addI <;> first | rfl | omega) | (apply y_subI <;> first | rfl | omega)); (case' h => simp only [Act.put, List.setIfInBounds_toArray, List.set_cons_zero, List.set_cons_succ]))))
          refine m_end (by kernel_rfl) ?_
          exact hJ b5 b25 b17 _ (S.sel (by repeat (first | exact Sel.nil | (apply Sel.cons (by repeat (first | exact Rem.here | apply Rem.there))))))
        · go_wp2_with ((with_reducible refine s_alloc S (h := ?_)); clear S; intro b5 w S hcN)
          refine ⟨.inr hcN, ?_⟩; clear hcN; simp only [Act.put, List.setIfInBounds_toArray, List.set_cons_zero, List.set_cons_succ]
          refine m_G2 10 12 [] [] (by kernel_rfl) (by repeat (with_reducible first | exact .zero | apply Nth.succ)) (by repeat (with_reducible first | exact .zero | apply Nth.succ)) ?_ ?_
          · go_wp2_with ((with_reducible refine gd 26 ?_); refine s_b2sE S (by kernel_rfl) (by kernel_rfl) rfl (n := 48 + (x.natAbs : Int) - 1) (by repeat (with_reducible first | exact List.mem_cons_self | apply List.mem_cons_of_mem)) hle2.out ?_)
            refine ⟨.inr (Chg.refl _ _), ?_⟩; simp only [Act.put, List.setIfInBounds_toArray, List.set_cons_zero, List.set_cons_succ]
            refine m_G 12 [13, 14] (by kernel_rfl) (by repeat (with_reducible first | exact .zero | apply Nth.succ)) ?_
            go_wp2_with ((first | ((with_reducible refine s_box S (h := ?_)); clear S; intro b w S hcN; clear hcN) | ((with_reducible refine s_alloc S (h := ?_)); clear S; intro b w S hcN; clear hcN) | (with_reducible refine s_load S (h := ?_)) | (with_reducible refine s_loadA S (h := ?_)) | ((with_reducible refine s_store S (h := ?_)); clear S; intro w S)))
            refine ⟨.inl rfl, ?_⟩; simp only [Act.put, List.setIfInBounds_toArray, List.set_cons_zero, List.set_cons_succ]
            (repeat (first | ((with_reducible apply m_P hQ); (case hn => repeat (with_reducible first | exact .zero | apply Nth.succ)); (case hc => kernel_rfl); (case hy => first | exact y_convU (by kernel_rfl) (by kernel_rfl) rfl (by omega) (by omega) | (apply y_negI <;> first | rfl | omega) | exact y_maxI rfl rfl hmx.out | (apply y_addI <;> first | rfl | omega) | (apply y_subI <;> first | rfl | omega) | (apply y_quo <;> first | rfl | assumption | omega) | (apply y_pure <;> first | rfl | (intro w'; go_simp; with_reducible rfl))); (case' h => simp only [Act.put, List.setIfInBounds_toArray, List.set_cons_zero, List.set_cons_succ])) | ((with_reducible apply m_R hQ); (case hn => repeat (with_reducible first | exact .zero | apply Nth.succ)); (case hc => kernel_rfl); (case hy => first | exact y_loadA S | exact y_load S | exact y_convU (by kernel_rfl) (by kernel_rfl) rfl (by omega) (by omega) | (apply y_negI <;> first | rfl | omega) | exact y_maxI rfl rfl hmx.out | (apply y_addI <;> first | rfl | omega) | (apply y_subI <;> first | rfl | omega)); (case' h => simp only [Act.put, List.setIfInBounds_toArray, List.set_cons_zero, List.set_cons_succ]))))
            refine m_end (by kernel_rfl) ?_
            exact hJ b5 b25 b17 _ (S.sel (by repeat (first | exact Sel.nil | (apply Sel.cons (by repeat (first | exact Rem.here | apply Rem.there))))))
          · go_wp2_with ((first | ((with_reducible refine s_box S (h := ?_)); clear S; intro b w S hcN; clear hcN) | ((with_reducible refine s_alloc S (h := ?_)); clear S; intro b w S hcN; clear hcN) | (with_reducible refine s_load S (h := ?_)) | (with_reducible refine s_loadA S (h := ?_)) | ((with_reducible refine s_store S (h := ?_)); clear S; intro w S)))
            refine ⟨.inl rfl, ?_⟩; simp only [Act.put, List.setIfInBounds_toArray, List.set_cons_zero, List.set_cons_succ]
            refine m_G 10 [13, 14] (by kernel_rfl) (by repeat (with_reducible first | exact .zero | apply Nth.succ)) ?_
            go_wp2_with ((with_reducible refine gd 26 ?_); refine s_b2sE S (by kernel_rfl) (by kernel_rfl) rfl (n := 48 + (x.natAbs : Int) - 1) (by repeat (with_reducible first | exact List.mem_cons_self | apply List.mem_cons_of_mem)) hle2.out ?_)
            refine ⟨.inr (Chg.refl _ _), ?_⟩; simp only [Act.put, List.setIfInBounds_toArray, List.set_cons_zero, List.set_cons_succ]
            (repeat (first | ((with_reducible apply m_P hQ); (case hn => repeat (with_reducible first | exact .zero | apply Nth.succ)); (case hc => kernel_rfl); (case hy => first | exact y_convU (by kernel_rfl) (by kernel_rfl) rfl (by omega) (by omega) | (apply y_negI <;> first | rfl | omega) | exact y_maxI rfl rfl hmx.out | (apply y_addI <;> first | rfl | omega) | (apply y_subI <;> first | rfl | omega) | (apply y_quo <;> first | rfl | assumption | omega) | (apply y_pure <;> first | rfl | (intro w'; go_simp; with_reducible rfl))); (case' h => simp only [Act.put, List.setIfInBounds_toArray, List.set_cons_zero, List.set_cons_succ])) | ((with_reducible apply m_R hQ); (case hn => repeat (with_reducible first | exact .zero | apply Nth.succ)); (case hc => kernel_rfl); (case hy => first | exact y_loadA S | exact y_load S | exact y_convU (by kernel_rfl) (by kernel_rfl) rfl (by omega) (by omega) | (apply y_negI <;> first | rfl | omega) | exact y_maxI rfl rfl hmx.out | (apply y_addI <;> first | rfl | omega) | (apply y_subI <;> first | rfl | omega)); (case' h => simp only [Act.put, List.setIfInBounds_toArray, List.set_cons_zero, List.set_cons_succ]))))
            refine m_end (by kernel_rfl) ?_
            exact hJ b5 b25 b17 _ (S.sel (by repeat (first | exact Sel.nil | (apply Sel.cons (by repeat (first | exact Rem.here | apply Rem.there))))))
      · go_wp2_with ((with_reducible refine gd 26 ?_); refine s_b2sE S (by kernel_rfl) (by kernel_rfl) rfl (n := 48 + (x.natAbs : Int) - 1) (by repeat (with_reducible first | exact List.mem_cons_self | apply List.mem_cons_of_mem)) hle2.out ?_)
        refine ⟨.inr (Chg.refl _ _), ?_⟩; simp only [Act.put, List.setIfInBounds_toArray, List.set_cons_zero, List.set_cons_succ]
        refine m_G2 1 11 [] [] (by kernel_rfl) (by repeat (with_reducible first | exact .zero | apply Nth.succ)) (by repeat (with_reducible first | exact .zero | apply Nth.succ)) ?_ ?_
        · go_wp2_with (go_at_call 80; refine (l01Empty_ok2 d L A _ c _).mono ?_; rintro e w1 ⟨b17, rfl, T⟩; have hcN := T.chg; have S := S.grow1 T; clear T)
          refine ⟨.inr hcN, ?_⟩; clear hcN; simp only [Act.put, List.setIfInBounds_toArray, List.set_cons_zero, List.set_cons_succ]
          refine m_G 11 [] (by kernel_rfl) (by repeat (with_reducible first | exact .zero | apply Nth.succ)) ?_
          go_wp2_with ((with_reducible refine s_alloc S (h := ?_)); clear S; intro b5 w S hcN)
          refine ⟨.inr hcN, ?_⟩; clear hcN; simp only [Act.put, List.setIfInBounds_toArray, List.set_cons_zero, List.set_cons_succ]
          refine m_G 12 [13, 14] (by kernel_rfl) (by repeat (with_reducible first | exact .zero | apply Nth.succ)) ?_
          go_wp2_with ((first | ((with_reducible refine s_box S (h := ?_)); clear S; intro b w S hcN; clear hcN) | ((with_reducible refine s_alloc S (h := ?_)); clear S; intro b w S hcN; clear hcN) | (with_reducible refine s_load S (h := ?_)) | (with_reducible refine s_loadA S (h := ?_)) | ((with_reducible refine s_store S (h := ?_)); clear S; intro w S)))
          refine ⟨.inl rfl, ?_⟩; simp only [Act.put, List.setIfInBounds_toArray, List.set_cons_zero, List.set_cons_succ]
          (repeat (first | ((with_reducible apply m_P hQ); (case hn => repeat (with_reducible first | exact .zero | apply Nth.succ)); (case hc => kernel_rfl); (case hy => first | exact y_convU (by kernel_rfl) (by kernel_rfl) rfl (by omega) (by omega) | (apply y_negI <;> first | rfl | omega) | exact y_maxI rfl rfl hmx.out | (apply y_addI <;> first | rfl | omega) | (apply y_subI <;> first | rfl | omega) | (apply y_quo <;> first | rfl | assumption | omega) | (apply y_pure <;> first | rfl | (intro w'; go_simp; with_reducible rfl))); (case' h => simp only [Act.put, List.setIfInBounds_toArray, List.set_cons_zero, List.set_cons_succ])) | ((with_reducible apply m_R hQ); (case hn => repeat (with_reducible first | exact .zero | apply Nth.succ)); (case hc => kernel_rfl); (case hy => first | exact y_loadA S | exact y_load S | exact y_convU (by kernel_rfl) (by kernel_rfl) rfl (by omega) (by omega) | (apply y_negI <;> first | rfl | omega) | exact y_maxI rfl rfl hmx.out | (apply y_addI <;> first | rfl | omega) | (apply y_subI <;> first | rfl | omega)); (case' h => simp only [Act.put, List.setIfInBounds_toArray, List.set_cons_zero, List.set_cons_succ]))))
          refine m_end (by kernel_rfl) ?_
          exact hJ b5 b25 b17 _ (S.sel (by repeat (first | exact Sel.nil | (apply Sel.cons (by repeat (first | exact Rem.here | apply Rem.there))))))
        · go_wp2_with ((with_reducible refine s_alloc S (h := ?_)); clear S; intro b5 w S hcN)
          refine ⟨.inr hcN, ?_⟩; clear hcN; simp only [Act.put, List.setIfInBounds_toArray, List.set_cons_zero, List.set_cons_succ]
          refine m_G 1 [] (by kernel_rfl) (by repeat (with_reducible first | exact .zero | apply Nth.succ)) ?_
          go_wp2_with (go_at_call 80; refine (l01Empty_ok2 d L A _ c _).mono ?_; rintro e w1 ⟨b17, rfl, T⟩; have hcN := T.chg; have S := S.grow1 T; clear T)
          refine ⟨.inr hcN, ?_⟩; clear hcN; simp only [Act.put, List.setIfInBounds_toArray, List.set_cons_zero, List.set_cons_succ]
          refine m_G 12 [13, 14] (by kernel_rfl) (by repeat (with_reducible first | exact .zero | apply Nth.succ)) ?_
          go_wp2_with ((first | ((with_reducible refine s_box S (h := ?_)); clear S; intro b w S hcN; clear hcN) | ((with_reducible refine s_alloc S (h := ?_)); clear S; intro b w S hcN; clear hcN) | (with_reducible refine s_load S (h := ?_)) | (with_reducible refine s_loadA S (h := ?_)) | ((with_reducible refine s_store S (h := ?_)); clear S; intro w S)))
          refine ⟨.inl rfl, ?_⟩; simp only [Act.put, List.setIfInBounds_toArray, List.set_cons_zero, List.set_cons_succ]
          (repeat (first | ((with_reducible apply m_P hQ); (case hn => repeat (with_reducible first | exact .zero | apply Nth.succ)); (case hc => kernel_rfl); (case hy => first | exact y_convU (by kernel_rfl) (by kernel_rfl) rfl (by omega) (by omega) | (apply y_negI <;> first | rfl | omega) | exact y_maxI rfl rfl hmx.out | (apply y_addI <;> first | rfl | omega) | (apply y_subI <;> first | rfl | omega) | (apply y_quo <;> first | rfl | assumption | omega) | (apply y_pure <;> first | rfl | (intro w'; go_simp; with_reducible rfl))); (case' h => simp only [Act.put, List.setIfInBounds_toArray, List.set_cons_zero, List.set_cons_succ])) | ((with_reducible apply m_R hQ); (case hn => repeat (with_reducible first | exact .zero | apply Nth.succ)); (case hc => kernel_rfl); (case hy => first | exact y_loadA S | exact y_load S | exact y_convU (by kernel_rfl) (by kernel_rfl) rfl (by omega) (by omega) | (apply y_negI <;> first | rfl | omega) | exact y_maxI rfl rfl hmx.out | (apply y_addI <;> first | rfl | omega) | (apply y_subI <;> first | rfl | omega)); (case' h => simp only [Act.put, List.setIfInBounds_toArray, List.set_cons_zero, List.set_cons_succ]))))
          refine m_end (by kernel_rfl) ?_
          exact hJ b5 b25 b17 _ (S.sel (by repeat (first | exact Sel.nil | (apply Sel.cons (by repeat (first | exact Rem.here | apply Rem.there))))))
      · go_wp2_with ((with_reducible refine s_alloc S (h := ?_)); clear S; intro b5 w S hcN)
        refine ⟨.inr hcN, ?_⟩; clear hcN; simp only [Act.put, List.setIfInBounds_toArray, List.set_cons_zero, List.set_cons_succ]
        refine m_G2 1 10 [] [] (by kernel_rfl) (by repeat (with_reducible first | exact .zero | apply Nth.succ)) (by repeat (with_reducible first | exact .zero | apply Nth.succ)) ?_ ?_
        · go_wp2_with (go_at_call 80; refine (l01Empty_ok2 d L A _ c _).mono ?_; rintro e w1 ⟨b17, rfl, T⟩; have hcN := T.chg; have S := S.grow1 T; clear T)
          refine ⟨.inr hcN, ?_⟩; clear hcN; simp only [Act.put, List.setIfInBounds_toArray, List.set_cons_zero, List.set_cons_succ]
          refine m_G2 10 12 [] [] (by kernel_rfl) (by repeat (with_reducible first | exact .zero | apply Nth.succ)) (by repeat (with_reducible first | exact .zero | apply Nth.succ)) ?_ ?_
          · go_wp2_with ((with_reducible refine gd 26 ?_); refine s_b2sE S (by kernel_rfl) (by kernel_rfl) rfl (n := 48 + (x.natAbs : Int) - 1) (by repeat (with_reducible first | exact List.mem_cons_self | apply List.mem_cons_of_mem)) hle2.out ?_)
            refine ⟨.inr (Chg.refl _ _), ?_⟩; simp only [Act.put, List.setIfInBounds_toArray, List.set_cons_zero, List.set_cons_succ]
            refine m_G 12 [13, 14] (by kernel_rfl) (by repeat (with_reducible first | exact .zero | apply Nth.succ)) ?_
            go_wp2_with ((first | ((with_reducible refine s_box S (h := ?_)); clear S; intro b w S hcN; clear hcN) | ((with_reducible refine s_alloc S (h := ?_)); clear S; intro b w S hcN; clear hcN) | (with_reducible refine s_load S (h := ?_)) | (with_reducible refine s_loadA S (h := ?_)) | ((with_reducible refine s_store S (h := ?_)); clear S; intro w S)))
            refine ⟨.inl rfl, ?_⟩; simp only [Act.put, List.setIfInBounds_toArray, List.set_cons_zero, List.set_cons_succ]
            (repeat (first | ((with_reducible apply m_P hQ); (case hn => repeat (with_reducible first | exact .zero | apply Nth.succ)); (case hc => kernel_rfl); (case hy => first | exact y_convU (by kernel_rfl) (by kernel_rfl) rfl (by omega) (by omega) | (apply y_negI <;> first | rfl | omega) | exact y_maxI rfl rfl hmx.out | (apply y_addI <;> first | rfl | omega) | (apply y_subI <;> first | rfl | omega) | (apply y_quo <;> first | rfl | assumption | omega) | (apply y_pure <;> first | rfl | (intro w'; go_simp; with_reducible rfl))); (case' h => simp only [Act.put, List.setIfInBounds_toArray, List.set_cons_zero, List.set_cons_succ])) | ((with_reducible apply m_R hQ); (case hn => repeat (with_reducible first | exact .zero | apply Nth.succ)); (case hc => kernel_rfl); (case hy => first | exact y_loadA S | exact y_load S | exact y_convU (by kernel_rfl) (by kernel_rfl) rfl (by omega) (by omega) | (apply y_negI <;> first | rfl | omega) | exact y_maxI rfl rfl hmx.out | (apply y_addI <;> first | rfl | omega) | (apply y_subI <;> first | rfl | omega)); (case' h => simp only [Act.put, List.setIfInBounds_toArray, List.set_cons_zero, List.set_cons_succ]))))
            refine m_end (by kernel_rfl) ?_
            exact hJ b5 b25 b17 _ (S.sel (by repeat (first | exact Sel.nil | (apply Sel.cons (by repeat (first | exact Rem.here | apply Rem.there))))))
          · go_wp2_with ((first | ((with_reducible refine s_box S (h := ?_)); clear S; intro b w S hcN; clear hcN) | ((with_reducible refine s_alloc S (h := ?_)); clear S; intro b w S hcN; clear hcN) | (with_reducible refine s_load S (h := ?_)) | (with_reducible refine s_loadA S (h := ?_)) | ((with_reducible refine s_store S (h := ?_)); clear S; intro w S)))
            refine ⟨.inl rfl, ?_⟩; simp only [Act.put, List.setIfInBounds_toArray, List.set_cons_zero, List.set_cons_succ]
            refine m_G 10 [13, 14] (by kernel_rfl) (by repeat (with_reducible first | exact .zero | apply Nth.succ)) ?_
            go_wp2_with ((with_reducible refine gd 26 ?_); refine s_b2sE S (by kernel_rfl) (by kernel_rfl) rfl (n := 48 + (x.natAbs : Int) - 1) (by repeat (with_reducible first | exact List.mem_cons_self | apply List.mem_cons_of_mem)) hle2.out ?_)
            refine ⟨.inr (Chg.refl _ _), ?_⟩; simp only [Act.put, List.setIfInBounds_toArray, List.set_cons_zero, List.set_cons_succ]
            (repeat (first | ((with_reducible apply m_P hQ); (case hn => repeat (with_reducible first | exact .zero | apply Nth.succ)); (case hc => kernel_rfl); (case hy => first | exact y_convU (by kernel_rfl) (by kernel_rfl) rfl (by omega) (by omega) | (apply y_negI <;> first | rfl | omega) | exact y_maxI rfl rfl hmx.out | (apply y_addI <;> first | rfl | omega) | (apply y_subI <;> first | rfl | omega) | (apply y_quo <;> first | rfl | assumption | omega) | (apply y_pure <;> first | rfl | (intro w'; go_simp; with_reducible rfl))); (case' h => simp only [Act.put, List.setIfInBounds_toArray, List.set_cons_zero, List.set_cons_succ])) | ((with_reducible apply m_R hQ); (case hn => repeat (with_reducible first | exact .zero | apply Nth.succ)); (case hc => kernel_rfl); (case hy => first | exact y_loadA S | exact y_load S | exact y_convU (by kernel_rfl) (by kernel_rfl) rfl (by omega) (by omega) | (apply y_negI <;> first | rfl | omega) | exact y_maxI rfl rfl hmx.out | (apply y_addI <;> first | rfl | omega) | (apply y_subI <;> first | rfl | omega)); (case' h => simp only [Act.put, List.setIfInBounds_toArray, List.set_cons_zero, List.set_cons_succ]))))
            refine m_end (by kernel_rfl) ?_
            exact hJ b5 b25 b17 _ (S.sel (by repeat (first | exact Sel.nil | (apply Sel.cons (by repeat (first | exact Rem.here | apply Rem.there))))))
        · go_wp2_with ((with_reducible refine gd 26 ?_); refine s_b2sE S (by kernel_rfl) (by kernel_rfl) rfl (n := 48 + (x.natAbs : Int) - 1) (by repeat (with_reducible first | exact List.mem_cons_self | apply List.mem_cons_of_mem)) hle2.out ?_)
          refine ⟨.inr (Chg.refl _ _), ?_⟩; simp only [Act.put, List.setIfInBounds_toArray, List.set_cons_zero, List.set_cons_succ]
          refine m_G 1 [] (by kernel_rfl) (by repeat (with_reducible first | exact .zero | apply Nth.succ)) ?_
          go_wp2_with (go_at_call 80; refine (l01Empty_ok2 d L A _ c _).mono ?_; rintro e w1 ⟨b17, rfl, T⟩; have hcN := T.chg; have S := S.grow1 T; clear T)
          refine ⟨.inr hcN, ?_⟩; clear hcN; simp only [Act.put, List.setIfInBounds_toArray, List.set_cons_zero, List.set_cons_succ]
          refine m_G 12 [13, 14] (by kernel_rfl) (by repeat (with_reducible first | exact .zero | apply Nth.succ)) ?_
          go_wp2_with ((first | ((with_reducible refine s_box S (h := ?_)); clear S; intro b w S hcN; clear hcN) | ((with_reducible refine s_alloc S (h := ?_)); clear S; intro b w S hcN; clear hcN) | (with_reducible refine s_load S (h := ?_)) | (with_reducible refine s_loadA S (h := ?_)) | ((with_reducible refine s_store S (h := ?_)); clear S; intro w S)))
          refine ⟨.inl rfl, ?_⟩; simp only [Act.put, List.setIfInBounds_toArray, List.set_cons_zero, List.set_cons_succ]
          (repeat (first | ((with_reducible apply m_P hQ); (case hn => repeat (with_reducible first | exact .zero | apply Nth.succ)); (case hc => kernel_rfl); (case hy => first | exact y_convU (by kernel_rfl) (by kernel_rfl) rfl (by omega) (by omega) | (apply y_negI <;> first | rfl | omega) | exact y_maxI rfl rfl hmx.out | (apply y_addI <;> first | rfl | omega) | (apply y_subI <;> first | rfl | omega) | (apply y_quo <;> first | rfl | assumption | omega) | (apply y_pure <;> first | rfl | (intro w'; go_simp; with_reducible rfl))); (case' h => simp only [Act.put, List.setIfInBounds_toArray, List.set_cons_zero, List.set_cons_succ])) | ((with_reducible apply m_R hQ); (case hn => repeat (with_reducible first | exact .zero | apply Nth.succ)); (case hc => kernel_rfl); (case hy => first | exact y_loadA S | exact y_load S | exact y_convU (by kernel_rfl) (by kernel_rfl) rfl (by omega) (by omega) | (apply y_negI <;> first | rfl | omega) | exact y_maxI rfl rfl hmx.out | (apply y_addI <;> first | rfl | omega) | (apply y_subI <;> first | rfl | omega)); (case' h => simp only [Act.put, List.setIfInBounds_toArray, List.set_cons_zero, List.set_cons_succ]))))
          refine m_end (by kernel_rfl) ?_
          exact hJ b5 b25 b17 _ (S.sel (by repeat (first | exact Sel.nil | (apply Sel.cons (by repeat (first | exact Rem.here | apply Rem.there))))))
    · go_wp2_with ((with_reducible refine s_alloc S (h := ?_)); clear S; intro b5 w S hcN)
      refine ⟨.inr hcN, ?_⟩; clear hcN; simp only [Act.put, List.setIfInBounds_toArray, List.set_cons_zero, List.set_cons_succ]
      refine m_G2 1 9 [] [] (by kernel_rfl) (by repeat (with_reducible first | exact .zero | apply Nth.succ)) (by repeat (with_reducible first | exact .zero | apply Nth.succ)) ?_ ?_
      · go_wp2_with (go_at_call 80; refine (l01Empty_ok2 d L A _ c _).mono ?_; rintro e w1 ⟨b17, rfl, T⟩; have hcN := T.chg; have S := S.grow1 T; clear T)
        refine ⟨.inr hcN, ?_⟩; clear hcN; simp only [Act.put, List.setIfInBounds_toArray, List.set_cons_zero, List.set_cons_succ]
        refine m_G2 9 12 [] [] (by kernel_rfl) (by repeat (with_reducible first | exact .zero | apply Nth.succ)) (by repeat (with_reducible first | exact .zero | apply Nth.succ)) ?_ ?_
        · go_wp2_with ((with_reducible refine gd 25 ?_); refine s_bs (cs := [.int .u8 (48 + (x.natAbs : Int) - 1)]) S ?_; clear S; intro b25 w1 S hcN)
          refine ⟨.inr hcN, ?_⟩; clear hcN; simp only [Act.put, List.setIfInBounds_toArray, List.set_cons_zero, List.set_cons_succ]
          refine m_G2 10 12 [] [] (by kernel_rfl) (by repeat (with_reducible first | exact .zero | apply Nth.succ)) (by repeat (with_reducible first | exact .zero | apply Nth.succ)) ?_ ?_
          · go_wp2_with ((with_reducible refine gd 26 ?_); refine s_b2sE S (by kernel_rfl) (by kernel_rfl) rfl (n := 48 + (x.natAbs : Int) - 1) (by repeat (with_reducible first | exact List.mem_cons_self | apply List.mem_cons_of_mem)) hle2.out ?_)
            refine ⟨.inr (Chg.refl _ _), ?_⟩; simp only [Act.put, List.setIfInBounds_toArray, List.set_cons_zero, List.set_cons_succ]
            refine m_G 12 [13, 14] (by kernel_rfl) (by repeat (with_reducible first | exact .zero | apply Nth.succ)) ?_
            go_wp2_with ((first | ((with_reducible refine s_box S (h := ?_)); clear S; intro b w S hcN; clear hcN) | ((with_reducible refine s_alloc S (h := ?_)); clear S; intro b w S hcN; clear hcN) | (with_reducible refine s_load S (h := ?_)) | (with_reducible refine s_loadA S (h := ?_)) | ((with_reducible refine s_store S (h := ?_)); clear S; intro w S)))
            refine ⟨.inl rfl, ?_⟩; simp only [Act.put, List.setIfInBounds_toArray, List.set_cons_zero, List.set_cons_succ]
            (repeat (first | ((with_reducible apply m_P hQ); (case hn => repeat (with_reducible first | exact .zero | apply Nth.succ)); (case hc => kernel_rfl); (case hy => first | exact y_convU (by kernel_rfl) (by kernel_rfl) rfl (by omega) (by omega) | (apply y_negI <;> first | rfl | omega) | exact y_maxI rfl rfl hmx.out | (apply y_addI <;> first | rfl | omega) | (apply y_subI <;> first | rfl | omega) | (apply y_quo <;> first | rfl | assumption | omega) | (apply y_pure <;> first | rfl | (intro w'; go_simp; with_reducible rfl))); (case' h => simp only [Act.put, List.setIfInBounds_toArray, List.set_cons_zero, List.set_cons_succ])) | ((with_reducible apply m_R hQ); (case hn => repeat (with_reducible first | exact .zero | apply Nth.succ)); (case hc => kernel_rfl); (case hy => first | exact y_loadA S | exact y_load S | exact y_convU (by kernel_rfl) (by kernel_rfl) rfl (by omega) (by omega) | (apply y_negI <;> first | rfl | omega) | exact y_maxI rfl rfl hmx.out | (apply y_addI <;> first | rfl | omega) | (apply y_subI <;> first | rfl | omega)); (case' h => simp only [Act.put, List.setIfInBounds_toArray, List.set_cons_zero, List.set_cons_succ]))))
            refine m_end (by kernel_rfl) ?_
            exact hJ b5 b25 b17 _ (S.sel (by repeat (first | exact Sel.nil | (apply Sel.cons (by repeat (first | exact Rem.here | apply Rem.there))))))
          · go_wp2_with ((first | ((with_reducible refine s_box S (h := ?_)); clear S; intro b w S hcN; clear hcN) | ((with_reducible refine s_alloc S (h := ?_)); clear S; intro b w S hcN; clear hcN) | (with_reducible refine s_load S (h := ?_)) | (with_reducible refine s_loadA S (h := ?_)) | ((with_reducible refine s_store S (h := ?_)); clear S; intro w S)))
            refine ⟨.inl rfl, ?_⟩; simp only [Act.put, List.setIfInBounds_toArray, List.set_cons_zero, List.set_cons_succ]
            refine m_G 10 [13, 14] (by kernel_rfl) (by repeat (with_reducible first | exact .zero | apply Nth.succ)) ?_
            go_wp2_with ((with_reducible refine gd 26 ?_); refine s_b2sE S (by kernel_rfl) (by kernel_rfl) rfl (n := 48 + (x.natAbs : Int) - 1) (by repeat (with_reducible first | exact List.mem_cons_self | apply List.mem_cons_of_mem)) hle2.out ?_)
            refine ⟨.inr (Chg.refl _ _), ?_⟩; simp only [Act.put, List.setIfInBounds_toArray, List.set_cons_zero, List.set_cons_succ]
            (repeat (first | ((with_reducible apply m_P hQ); (case hn => repeat (with_reducible first | exact .zero | apply Nth.succ)); (case hc => kernel_rfl); (case hy => first | exact y_convU (by kernel_rfl) (by kernel_rfl) rfl (by omega) (by omega) | (apply y_negI <;> first | rfl | omega) | exact y_maxI rfl rfl hmx.out | (apply y_addI <;> first | rfl | omega) | (apply y_subI <;> first | rfl | omega) | (apply y_quo <;> first | rfl | assumption | omega) | (apply y_pure <;> first | rfl | (intro w'; go_simp; with_reducible rfl))); (case' h => simp only [Act.put, List.setIfInBounds_toArray, List.set_cons_zero, List.set_cons_succ])) | ((with_reducible apply m_R hQ); (case hn => repeat (with_reducible first | exact .zero | apply Nth.succ)); (case hc => kernel_rfl); (case hy => first | exact y_loadA S | exact y_load S | exact y_convU (by kernel_rfl) (by kernel_rfl) rfl (by omega) (by omega) | (apply y_negI <;> first | rfl | omega) | exact y_maxI rfl rfl hmx.out | (apply y_addI <;> first | rfl | omega) | (apply y_subI <;> first | rfl | omega)); (case' h => simp only [Act.put, List.setIfInBounds_toArray, List.set_cons_zero, List.set_cons_succ]))))
            refine m_end (by kernel_rfl) ?_
            exact hJ b5 b25 b17 _ (S.sel (by repeat (first | exact Sel.nil | (apply Sel.cons (by repeat (first | exact Rem.here | apply Rem.there))))))
        · go_wp2_with ((first | ((with_reducible refine s_box S (h := ?_)); clear S; intro b w S hcN; clear hcN) | ((with_reducible refine s_alloc S (h := ?_)); clear S; intro b w S hcN; clear hcN) | (with_reducible refine s_load S (h := ?_)) | (with_reducible refine s_loadA S (h := ?_)) | ((with_reducible refine s_store S (h := ?_)); clear S; intro w S)))
          refine ⟨.inl rfl, ?_⟩; simp only [Act.put, List.setIfInBounds_toArray, List.set_cons_zero, List.set_cons_succ]
          refine m_G 9 [] (by kernel_rfl) (by repeat (with_reducible first | exact .zero | apply Nth.succ)) ?_
          go_wp2_with ((with_reducible refine gd 25 ?_); refine s_bs (cs := [.int .u8 (48 + (x.natAbs : Int) - 1)]) S ?_; clear S; intro b25 w1 S hcN)
          refine ⟨.inr hcN, ?_⟩; clear hcN; simp only [Act.put, List.setIfInBounds_toArray, List.set_cons_zero, List.set_cons_succ]
          refine m_G 10 [13, 14] (by kernel_rfl) (by repeat (with_reducible first | exact .zero | apply Nth.succ)) ?_
          go_wp2_with ((with_reducible refine gd 26 ?_); refine s_b2sE S (by kernel_rfl) (by kernel_rfl) rfl (n := 48 + (x.natAbs : Int) - 1) (by repeat (with_reducible first | exact List.mem_cons_self | apply List.mem_cons_of_mem)) hle2.out ?_)
          refine ⟨.inr (Chg.refl _ _), ?_⟩; simp only [Act.put, List.setIfInBounds_toArray, List.set_cons_zero, List.set_cons_succ]
          (repeat (first | ((with_reducible apply m_P hQ); (case hn => repeat (with_reducible first | exact .zero | apply Nth.succ)); (case hc => kernel_rfl); (case hy => first | exact y_convU (by kernel_rfl) (by kernel_rfl) rfl (by omega) (by omega) | (apply y_negI <;> first | rfl | omega) | exact y_maxI rfl rfl hmx.out | (apply y_addI <;> first | rfl | omega) | (apply y_subI <;> first | rfl | omega) | (apply y_quo <;> first | rfl | assumption | omega) | (apply y_pure <;> first | rfl | (intro w'; go_simp; with_reducible rfl))); (case' h => simp only [Act.put, List.setIfInBounds_toArray, List.set_cons_zero, List.set_cons_succ])) | ((with_reducible apply m_R hQ); (case hn => repeat (with_reducible first | exact .zero | apply Nth.succ)); (case hc => kernel_rfl); (case hy => first | exact y_loadA S | exact y_load S | exact y_convU (by kernel_rfl) (by kernel_rfl) rfl (by omega) (by omega) | (apply y_negI <;> first | rfl | omega) | exact y_maxI rfl rfl hmx.out | (apply y_addI <;> first | rfl | omega) | (apply y_subI <;> first | rfl | omega)); (case' h => simp only [Act.put, List.setIfInBounds_toArray, List.set_cons_zero, List.set_cons_succ]))))
          refine m_end (by kernel_rfl) ?_
          exact hJ b5 b25 b17 _ (S.sel (by repeat (first | exact Sel.nil | (apply Sel.cons (by repeat (first | exact Rem.here | apply Rem.there))))))
      · go_wp2_with ((with_reducible refine gd 25 ?_); refine s_bs (cs := [.int .u8 (48 + (x.natAbs : Int) - 1)]) S ?_; clear S; intro b25 w1 S hcN)
        refine ⟨.inr hcN, ?_⟩; clear hcN; simp only [Act.put, List.setIfInBounds_toArray, List.set_cons_zero, List.set_cons_succ]
        refine m_G2 1 10 [] [] (by kernel_rfl) (by repeat (with_reducible first | exact .zero | apply Nth.succ)) (by repeat (with_reducible first | exact .zero | apply Nth.succ)) ?_ ?_
        · go_wp2_with (go_at_call 80; refine (l01Empty_ok2 d L A _ c _).mono ?_; rintro e w1 ⟨b17, rfl, T⟩; have hcN := T.chg; have S := S.grow1 T; clear T)
          refine ⟨.inr hcN, ?_⟩; clear hcN; simp only [Act.put, List.setIfInBounds_toArray, List.set_cons_zero, List.set_cons_succ]
          refine m_G2 10 12 [] [] (by kernel_rfl) (by repeat (with_reducible first | exact .zero | apply Nth.succ)) (by repeat (with_reducible first | exact .zero | apply Nth.succ)) ?_ ?_
          · go_wp2_with ((with_reducible refine gd 26 ?_); refine s_b2sE S (by kernel_rfl) (by kernel_rfl) rfl (n := 48 + (x.natAbs : Int) - 1) (by repeat (with_reducible first | exact List.mem_cons_self | apply List.mem_cons_of_mem)) hle2.out ?_)
            refine ⟨.inr (Chg.refl _ _), ?_⟩; simp only [Act.put, List.setIfInBounds_toArray, List.set_cons_zero, List.set_cons_succ]
            refine m_G 12 [13, 14] (by kernel_rfl) (by repeat (with_reducible first | exact .zero | apply Nth.succ)) ?_
            go_wp2_with ((first | ((with_reducible refine s_box S (h := ?_)); clear S; intro b w S hcN; clear hcN) | ((with_reducible refine s_alloc S (h := ?_)); clear S; intro b w S hcN; clear hcN) | (with_reducible refine s_load S (h := ?_)) | (with_reducible refine s_loadA S (h := ?_)) | ((with_reducible refine s_store S (h := ?_)); clear S; intro w S)))
            refine ⟨.inl rfl, ?_⟩; simp only [Act.put, List.setIfInBounds_toArray, List.set_cons_zero, List.set_cons_succ]
            (repeat (first | ((with_reducible apply m_P hQ); (case hn => repeat (with_reducible first | exact .zero | apply Nth.succ)); (case hc => kernel_rfl); (case hy => first | exact y_convU (by kernel_rfl) (by kernel_rfl) rfl (by omega) (by omega) | (apply y_negI <;> first | rfl | omega) | exact y_maxI rfl rfl hmx.out | (apply y_addI <;> first | rfl | omega) | (apply y_subI <;> first | rfl | omega) | (apply y_quo <;> first | rfl | assumption | omega) | (apply y_pure <;> first | rfl | (intro w'; go_simp; with_reducible rfl))); (case' h => simp only [Act.put, List.setIfInBounds_toArray, List.set_cons_zero, List.set_cons_succ])) | ((with_reducible apply m_R hQ); (case hn => repeat (with_reducible first | exact .zero | apply Nth.succ)); (case hc => kernel_rfl); (case hy => first | exact y_loadA S | exact y_load S | exact y_convU (by kernel_rfl) (by kernel_rfl) rfl (by omega) (by omega) | (apply y_negI <;> first | rfl | omega) | exact y_maxI rfl rfl hmx.out | (apply y_addI <;> first | rfl | omega) | (apply y_subI <;> first | rfl | omega)); (case' h => simp only [Act.put, List.setIfInBounds_toArray, List.set_cons_zero, List.set_cons_succ]))))
            refine m_end (by kernel_rfl) ?_
            exact hJ b5 b25 b17 _ (S.sel (by repeat (first | exact Sel.nil | (apply Sel.cons (by repeat (first | exact Rem.here | apply Rem.there))))))
          · go_wp2_with ((first | ((with_reducible refine s_box S (h := ?_)); clear S; intro b w S hcN; clear hcN) | ((with_reducible refine s_alloc S (h := ?_)); clear S; intro b w S hcN; clear hcN) | (with_reducible refine s_load S (h := ?_)) | (with_reducible refine s_loadA S (h := ?_)) | ((with_reducible refine s_store S (h := ?_)); clear S; intro w S)))
            refine ⟨.inl rfl, ?_⟩; simp only [Act.put, List.setIfInBounds_toArray, List.set_cons_zero, List.set_cons_succ]
            refine m_G 10 [13, 14] (by kernel_rfl) (by repeat (with_reducible first | exact .zero | apply Nth.succ)) ?_
            go_wp2_with ((with_reducible refine gd 26 ?_); refine s_b2sE S (by kernel_rfl) (by kernel_rfl) rfl (n := 48 + (x.natAbs : Int) - 1) (by repeat (with_reducible first | exact List.mem_cons_self | apply List.mem_cons_of_mem)) hle2.out ?_)
            refine ⟨.inr (Chg.refl _ _), ?_⟩; simp only [Act.put, List.setIfInBounds_toArray, List.set_cons_zero, List.set_cons_succ]
            (repeat (first | ((with_reducible apply m_P hQ); (case hn => repeat (with_reducible first | exact .zero | apply Nth.succ)); (case hc => kernel_rfl); (case hy => first | exact y_convU (by kernel_rfl) (by kernel_rfl) rfl (by omega) (by omega) | (apply y_negI <;> first | rfl | omega) | exact y_maxI rfl rfl hmx.out | (apply y_addI <;> first | rfl | omega) | (apply y_subI <;> first | rfl | omega) | (apply y_quo <;> first | rfl | assumption | omega) | (apply y_pure <;> first | rfl | (intro w'; go_simp; with_reducible rfl))); (case' h => simp only [Act.put, List.setIfInBounds_toArray, List.set_cons_zero, List.set_cons_succ])) | ((with_reducible apply m_R hQ); (case hn => repeat (with_reducible first | exact .zero | apply Nth.succ)); (case hc => kernel_rfl); (case hy => first | exact y_loadA S | exact y_load S | exact y_convU (by kernel_rfl) (by kernel_rfl) rfl (by omega) (by omega) | (apply y_negI <;> first | rfl | omega) | exact y_maxI rfl rfl hmx.out | (apply y_addI <;> first | rfl | omega) | (apply y_subI <;> first | rfl | omega)); (case' h => simp only [Act.put, List.setIfInBounds_toArray, List.set_cons_zero, List.set_cons_succ]))))
            refine m_end (by kernel_rfl) ?_
            exact hJ b5 b25 b17 _ (S.sel (by repeat (first | exact Sel.nil | (apply Sel.cons (by repeat (first | exact Rem.here | apply Rem.there))))))
        · go_wp2_with ((with_reducible refine gd 26 ?_); refine s_b2sE S (by kernel_rfl) (by kernel_rfl) rfl (n := 48 + (x.natAbs : Int) - 1) (by repeat (with_reducible first | exact List.mem_cons_self | apply List.mem_cons_of_mem)) hle2.out ?_)
          refine ⟨.inr (Chg.refl _ _), ?_⟩; simp only [Act.put, List.setIfInBounds_toArray, List.set_cons_zero, List.set_cons_succ]
          refine m_G 1 [] (by kernel_rfl) (by repeat (with_reducible first | exact .zero | apply Nth.succ)) ?_
          go_wp2_with (go_at_call 80; refine (l01Empty_ok2 d L A _ c _).mono ?_; rintro e w1 ⟨b17, rfl, T⟩; have hcN := T.chg; have S := S.grow1 T; clear T)
          refine ⟨.inr hcN, ?_⟩; clear hcN; simp only [Act.put, List.setIfInBounds_toArray, List.set_cons_zero, List.set_cons_succ]
          refine m_G 12 [13, 14] (by kernel_rfl) (by repeat (with_reducible first | exact .zero | apply Nth.succ)) ?_
          go_wp2_with ((first | ((with_reducible refine s_box S (h := ?_)); clear S; intro b w S hcN; clear hcN) | ((with_reducible refine s_alloc S (h := ?_)); clear S; intro b w S hcN; clear hcN) | (with_reducible refine s_load S (h := ?_)) | (with_reducible refine s_loadA S (h := ?_)) | ((with_reducible refine s_store S (h := ?_)); clear S; intro w S)))
          refine ⟨.inl rfl, ?_⟩; simp only [Act.put, List.setIfInBounds_toArray, List.set_cons_zero, List.set_cons_succ]
          (repeat (first | ((with_reducible apply m_P hQ); (case hn => repeat (with_reducible first | exact .zero | apply Nth.succ)); (case hc => kernel_rfl); (case hy => first | exact y_convU (by kernel_rfl) (by kernel_rfl) rfl (by omega) (by omega) | (apply y_negI <;> first | rfl | omega) | exact y_maxI rfl rfl hmx.out | (apply y_addI <;> first | rfl | omega) | (apply y_subI <;> first | rfl | omega) | (apply y_quo <;> first | rfl | assumption | omega) | (apply y_pure <;> first | rfl | (intro w'; go_simp; with_reducible rfl))); (case' h => simp only [Act.put, List.setIfInBounds_toArray, List.set_cons_zero, List.set_cons_succ])) | ((with_reducible apply m_R hQ); (case hn => repeat (with_reducible first | exact .zero | apply Nth.succ)); (case hc => kernel_rfl); (case hy => first | exact y_loadA S | exact y_load S | exact y_convU (by kernel_rfl) (by kernel_rfl) rfl (by omega) (by omega) | (apply y_negI <;> first | rfl | omega) | exact y_maxI rfl rfl hmx.out | (apply y_addI <;> first | rfl | omega) | (apply y_subI <;> first | rfl | omega)); (case' h => simp only [Act.put, List.setIfInBounds_toArray, List.set_cons_zero, List.set_cons_succ]))))
          refine m_end (by kernel_rfl) ?_
          exact hJ b5 b25 b17 _ (S.sel (by repeat (first | exact Sel.nil | (apply Sel.cons (by repeat (first | exact Rem.here | apply Rem.there))))))
  case' cont =>
    clear hQ
    intro b5 b25 b17 w S
    refine (by assumption : ∀ a w, Code.wp _ _ _ a w → _) _ _ ?_
  go_wp2
  all_goals
    first
      | (have hsg : Hid (sgn x = -1) := hid (by unfold sgn; rw [if_pos (by assumption)]))
      | (have hsg : Hid (sgn x = 1) := hid (by unfold sgn; rw [if_neg (by omega)]))
    go_loopw [8] (fun i wr => ∃ (k : Nat) (out : List Term) (vo : Value) (bo : List Nat), k ≤ xs.length ∧ i = .int .i64 k ∧ out.length ≤ 9 * k ∧ Hid (stepO L le (sgn x) (xs.drop k) out = some r) ∧ Hid (∀ t ∈ out, isF t.val = true ∧ t.word.size ≤ 9) ∧ St [] w0 wr [serV vo out bo, serC b5 d L vo, serC b2 d L (.slice A xs.length c), serC b4 0 0 (.slice none 0 0)]) (fun i _ => xs.length - (intOf i).toNat)
    case atStart =>
      exact ⟨0, [], .slice (some ⟨b17, 0, none⟩) 0 0, [b17], Nat.zero_le _, rfl, by simp, hid (by rw [List.drop_zero]; exact hr), hid (by simp), S.sel (by repeat (first | exact Sel.nil | (apply Sel.cons (by repeat (first | exact Rem.here | apply Rem.there)))))⟩
    case round =>
      clear S
      repeat (rename x < 0 => hz; clear hz)
      repeat (rename ¬ x < 0 => hz; clear hz)
      repeat (rename 0 ≤ x => hz; clear hz)
      obtain ⟨k, out, vo, bo, hk, rfl, hol, hst, hot, S⟩ := hrel
      by_cases hlt : k < xs.length
      · obtain ⟨ad, _, rfl, -, ⟨_, rfl, _⟩, hE⟩ := hR.getS k _ (List.getElem?_eq_getElem hlt)
        obtain ⟨hv1, hv2⟩ := hts.out _ (List.getElem_mem hlt)
        have hst := hst.out
        rw [drop_cons hlt] at hst
        unfold stepO at hst
        obtain ⟨o1, ho1, ho2⟩ := Option.bind_eq_some_iff.1 hst
        clear hst
        replace ho1 := hid ho1; replace ho2 := hid ho2
        generalize xs[k] = t0 at *
        replace hE : El _ _ [.string t0.word, .int .i64 t0.val.num, .int .i64 t0.val.den] := hE
        have hE1 : El _ _ [.int .i64 t0.val.num, .int .i64 t0.val.den] := hE.add 1
        go_wp2_with (first | ((with_reducible refine s_box S (h := ?_)); clear S; intro b w S hcN; clear hcN) | ((with_reducible refine s_alloc S (h := ?_)); clear S; intro b w S hcN; clear hcN) | (with_reducible refine s_load S (h := ?_)) | (with_reducible refine s_loadA S (h := ?_)) | ((with_reducible refine s_store S (h := ?_)); clear S; intro w S))
        refine m_startS 15 [14] [0, 1, 2, 3, 4, 5, 6, 7, 8, 9, 10, 11] S ?_
        clear S; intro w hQ S hcD
        (repeat (first | ((with_reducible apply m_P hQ); (case hn => repeat (with_reducible first | exact .zero | apply Nth.succ)); (case hc => kernel_rfl); (case hy => first | exact y_load S | exact y_ldE (hE.step S.chg) | exact y_ldEA (hE1.step S.chg) | (apply y_idxS <;> first | rfl | omega) | (apply y_quo <;> first | rfl | assumption | omega) | (apply y_pure <;> first | rfl | (intro w'; go_simp; with_reducible rfl))); (case' h => simp only [Act.put, List.setIfInBounds_toArray, List.set_cons_zero, List.set_cons_succ])) | ((with_reducible apply m_R hQ); (case hn => repeat (with_reducible first | exact .zero | apply Nth.succ)); (case hc => kernel_rfl); (case hy => first | exact y_loadA S | exact y_load S | exact y_load S | exact y_ldE (hE.step S.chg) | exact y_ldEA (hE1.step S.chg) | (apply y_idxS <;> first | rfl | omega)); (case' h => simp only [Act.put, List.setIfInBounds_toArray, List.set_cons_zero, List.set_cons_succ]))))
        refine m_G 12 [13] (by kernel_rfl) (by repeat (with_reducible first | exact .zero | apply Nth.succ)) ?_
        go_wp2_with ((with_reducible refine s_alloc S (h := ?_)); clear S; intro b10 w S hcN)
        refine ⟨.inr hcN, ?_⟩; clear hcN; simp only [Act.put, List.setIfInBounds_toArray, List.set_cons_zero, List.set_cons_succ]
        (repeat (first | ((with_reducible apply m_P hQ); (case hn => repeat (with_reducible first | exact .zero | apply Nth.succ)); (case hc => kernel_rfl); (case hy => first | exact y_load S | exact y_ldE (hE.step S.chg) | exact y_ldEA (hE1.step S.chg) | (apply y_idxS <;> first | rfl | omega) | (apply y_quo <;> first | rfl | assumption | omega) | (apply y_pure <;> first | rfl | (intro w'; go_simp; with_reducible rfl))); (case' h => simp only [Act.put, List.setIfInBounds_toArray, List.set_cons_zero, List.set_cons_succ])) | ((with_reducible apply m_R hQ); (case hn => repeat (with_reducible first | exact .zero | apply Nth.succ)); (case hc => kernel_rfl); (case hy => first | exact y_loadA S | exact y_load S | exact y_load S | exact y_ldE (hE.step S.chg) | exact y_ldEA (hE1.step S.chg) | (apply y_idxS <;> first | rfl | omega)); (case' h => simp only [Act.put, List.setIfInBounds_toArray, List.set_cons_zero, List.set_cons_succ]))))
        refine m_G 14 [] (by kernel_rfl) (by repeat (with_reducible first | exact .zero | apply Nth.succ)) ?_
        go_wp2_with ((first | ((with_reducible refine s_box S (h := ?_)); clear S; intro b w S hcN; clear hcN) | ((with_reducible refine s_alloc S (h := ?_)); clear S; intro b w S hcN; clear hcN) | (with_reducible refine s_load S (h := ?_)) | (with_reducible refine s_loadA S (h := ?_)) | ((with_reducible refine s_store S (h := ?_)); clear S; intro w S)))
        refine ⟨.inl rfl, ?_⟩; simp only [Act.put, List.setIfInBounds_toArray, List.set_cons_zero, List.set_cons_succ]
        (refine m_end (by kernel_rfl) ?_; refine (by assumption : ∀ a w, Code.wp _ _ _ a w → _) _ _ ?_)
        go_wp2
        have S := S.sel (H' := [serV vo out bo, serC b5 d L vo, cel b10 [.int .i64 t0.val.num, .int .i64 t0.val.den] 76, serC b2 d L (.slice (some ad) xs.length c), serC b4 0 0 (.slice none 0 0)]) (by repeat (first | exact Sel.nil | (apply Sel.cons (by repeat (first | exact Rem.here | apply Rem.there)))))
        go_loopw [9, 11] (fun wv nv wr => ∃ (f n : Nat) (out' : List Term) (s : ByteArray) (a : Frac) (vo : Value) (bo : List Nat), wv = .string s ∧ nv = .int .i64 n ∧ s.size + f = L + 1 ∧ 1 ≤ n ∧ n + f ≤ 10 ∧ out'.length + f ≤ 9 * k + 9 ∧ isF a = true ∧ Hid (inO le (sgn x) f out' s a n = some o1) ∧ Hid (∀ t ∈ out', isF t.val = true ∧ t.word.size ≤ 9) ∧ St [] w0 wr [serV vo out' bo, serC b5 d L vo, cel b10 [.int .i64 a.num, .int .i64 a.den] 76, serC b2 d L (.slice (some ad) xs.length c), serC b4 0 0 (.slice none 0 0)]) (fun _ nv _ => 11 - (intOf nv).toNat)
        case atStart => exact ⟨L + 1 - t0.word.size, 1, out, t0.word, t0.val, vo, bo, rfl, rfl, by omega, by omega, by omega, by omega, hv1, ho1, hot, S⟩
        case round =>
          clear S hot hol
          obtain ⟨f, n, out', s, a, vo2, bo2, rfl, rfl, hsf, hn1, hnf, hol, ha, hin, hot, S⟩ := hrel
          obtain ⟨A2, c2, rfl, -, -⟩ := own_slice S (.head _)
          cases f with
          | zero =>
            have hin := hin.out
            injection hin with hin
            subst hin
            go_wp2_with (first | ((with_reducible refine s_box S (h := ?_)); clear S; intro b w S hcN; clear hcN) | ((with_reducible refine s_alloc S (h := ?_)); clear S; intro b w S hcN; clear hcN) | (with_reducible refine s_load S (h := ?_)) | (with_reducible refine s_loadA S (h := ?_)) | ((with_reducible refine s_store S (h := ?_)); clear S; intro w S))
            go_roundw
            case rel => exact ⟨k + 1, out', .slice A2 out'.length c2, bo2, hlt, by go_num, by omega, ho2, hot, S.sel (by repeat (first | exact Sel.nil | (apply Sel.cons (by repeat (first | exact Rem.here | apply Rem.there)))))⟩
            case measure => simp [intOf]; omega
          | succ f =>
            obtain ⟨o, a', hput, hfr, hrest⟩ := inO_succ hin.out
            have hputm := hid (putL_mem hput ha)
            have hputl := putL_len hput
            have hA := isF_b ha
            have hfa := fr_isF hfr
            have hfv : frV (a.num * sgn x) (a.den * n) = a' := by unfold frV; rw [hfr]; rfl
            have hm1 : -1000000000 ≤ a.num * sgn x ∧ a.num * sgn x ≤ 1000000000 := by
              rcases sgn_or x with h | h <;> rw [h] <;> omega
            have hm2 : 0 ≤ a.den * (n : Int) ∧ a.den * (n : Int) ≤ 10000000000 := by
              have h1 := Int.mul_le_mul_of_nonneg_left (show (n : Int) ≤ 10 by omega) (show 0 ≤ a.den by omega)
              have h2 := Int.mul_nonneg (show 0 ≤ a.den by omega) (show 0 ≤ (n : Int) by omega)
              omega
            have hof : ∀ t ∈ out', isF t.val = true := fun t ht => (hot.out t ht).1
            have how : ∀ t ∈ out', t.word.size ≤ 9 := fun t ht => (hot.out t ht).2
            replace hof := hid hof; replace how := hid how
            replace hput := hid hput; replace hfr := hid hfr; replace hrest := hid hrest; replace hfv := hid hfv; replace hputl := hid hputl
            go_wp2_with (first
              | (go_at_call 81; refine (l01Put_ok out' s a _ _ (S.own_rd (by repeat (with_reducible first | exact List.mem_cons_self | apply List.mem_cons_of_mem))) (by omega) ha hof.out 9 (by omega) (by omega) how.out).mono ?_; rw [hput.out]; rintro e w1 ⟨v3, bs3, rfl, T⟩; replace T : St [] _ _ [serV v3 o bs3] := T; have S := S.grow1 T; clear T; obtain ⟨A3, c3, rfl, -, -⟩ := own_slice S (.head _))
              | (go_at_call 113; refine (l01Frac_okE (a.num * sgn x) (a.den * n) _ (by omega) (by omega) (by omega) (by omega) (by rw [hsg.out]; omega) rfl).mono ?_; rw [hfv.out, hfr.out]; rintro e w1 ⟨rfl, hc⟩; have S := S.step hc; clear hc)
              | ((with_reducible refine s_alloc S (h := ?_)); clear S; intro b14 w S hcN; clear hcN)
              | ((with_reducible refine s_box S (h := ?_)); clear S; intro b w S hcN; clear hcN) | ((with_reducible refine s_alloc S (h := ?_)); clear S; intro b w S hcN; clear hcN) | (with_reducible refine s_load S (h := ?_)) | (with_reducible refine s_loadA S (h := ?_)) | ((with_reducible refine s_store S (h := ?_)); clear S; intro w S))
            refine ⟨?_, ?_⟩
            rotate_left
            · simp [intOf]; omega
            · repeat apply Exists.intro
              refine ⟨?_, rfl⟩
              refine ⟨f, n + 1, o, s ++ le, a', .slice A3 o.length c3, bs3, rfl, by go_num, by rw [ByteArray.size_append]; omega, by omega, by omega, by have := hputl.out; omega, hfa, hrest, hid (fun t ht => ?_), S.sel (by repeat (first | exact Sel.nil | (apply Sel.cons (by repeat (first | exact Rem.here | apply Rem.there)))))⟩
              rcases hputm.out t ht with h | ⟨h1, h2⟩
              · exact hot.out t h
              · exact ⟨h2, by rw [h1]; omega⟩
      · obtain rfl : k = xs.length := by omega
        have hst := hst.out
        rw [List.drop_length] at hst
        injection hst with hst
        subst hst
        obtain ⟨A2, c2, rfl, -, -⟩ := own_slice S (.head _)
        go_wp2_with (first | ((with_reducible refine s_box S (h := ?_)); clear S; intro b w S hcN; clear hcN) | ((with_reducible refine s_alloc S (h := ?_)); clear S; intro b w S hcN; clear hcN) | (with_reducible refine s_load S (h := ?_)) | (with_reducible refine s_loadA S (h := ?_)) | ((with_reducible refine s_store S (h := ?_)); clear S; intro w S))
        refine s_ret1 S (h := ?_)
        exact ⟨.slice A2 out.length c2, bo, rfl, S.sel (by repeat (first | exact Sel.nil | (apply Sel.cons (by repeat (first | exact Rem.here | apply Rem.there)))))⟩
end Go.Proofs.Ytcfialfgkkjlfaa
