/- Signatures: contracts of stepSignature, signature, pathOfWord. -/
import Derived.Test.YtcfialfgkkjlfaaG10
import Derived.Test.YtcfialfgkkjlfaaE1
set_option linter.unusedSimpArgs false
set_option linter.unusedVariables false
namespace Go.Sg
open Go.Sx
def stpV (vals : List Frac) (xs : List Int) : Nat → List Frac
  | 0 => vals
  | k + 1 => (stpV vals xs k).set (1 + k) ⟨xs.getD k 0, 1⟩
def stpT (d n : Nat) (xs : List Int) : Tb := ⟨stpV (newT d n).vals xs xs.length, false⟩
theorem stpV_len (vals : List Frac) (xs : List Int) : ∀ k, (stpV vals xs k).length = vals.length
  | 0 => rfl
  | k + 1 => by simp [stpV, stpV_len vals xs k]
theorem isF_whole {a : Int} (h1 : -1000000000 ≤ a) (h2 : a ≤ 1000000000) : isF ⟨a, 1⟩ = true := by
  unfold isF
  simp only [decide_eq_true_eq]
  refine ⟨by omega, by omega, h1, h2, ?_⟩
  simp [gcd]
def small (N : Int) (xs : List Int) : Prop := ∀ x ∈ xs, -N ≤ x ∧ x ≤ N
theorem stpV_isF {vals : List Frac} {xs : List Int} (h : ∀ x ∈ vals, isF x = true) (hx : small 1000000000 xs) : ∀ k, ∀ x ∈ stpV vals xs k, isF x = true
  | 0 => h
  | k + 1 => by
    refine set_isF (stpV_isF h hx k) _ (isF_whole ?_ ?_)
    all_goals
      by_cases hk : k < xs.length
      · have := hx _ (List.getElem_mem hk)
        simp [hk]
        omega
      · simp [hk]
theorem TOk.step {d n : Nat} {xs : List Int} (hd : d ≤ 3) (hn : n ≤ 8) (hx : small 1000000000 xs) : TOk d n (stpT d n xs) :=
  ⟨hd, hn, by simp [stpT, stpV_len, newT], stpV_isF (TOk.new hd hn).fr hx _⟩
def sigT (d n : Nat) (path : List (List Int)) : Tb := path.foldl (fun out st => timesT d n out (expT d n (stpT d n st))) (unitT d n)
theorem sigT_next {d n : Nat} {path : List (List Int)} {k : Nat} (h : k < path.length) : sigT d n (path.take (k + 1)) = timesT d n (sigT d n (path.take k)) (expT d n (stpT d n path[k])) := by
  unfold sigT
  rw [take_next h, List.foldl_append]
  rfl
theorem TOk.sig {d n : Nat} (hd : d ≤ 3) (hn : n ≤ 8) : ∀ (path : List (List Int)), TOk d n (sigT d n path) := by
  intro path
  have key : ∀ (path : List (List Int)) (t : Tb), TOk d n t → TOk d n (path.foldl (fun out st => timesT d n out (expT d n (stpT d n st))) t) := by
    intro path
    induction path with
    | nil => exact fun t h => h
    | cons x path ih => exact fun t h => ih _ h.times
  exact key path _ (TOk.unit hd hn)
end Go.Sg
namespace Go.Proofs.Ytcfialfgkkjlfaa
open Go.RowKit Go.Sx Go.Sg
set_option maxRecDepth 100000 in
theorem stepSignature_ok (d n : Nat) (xs : List Int) (v : Value) (w0 : World) (hR : Rd (sl 2 dInt) w0 xs [v]) (hd3 : d ≤ 3) (hn8 : n ≤ 8) (hl : xs.length + 1 ≤ (allW d n).length) (hx : small 1000000000 xs) :
    Calls Try.prog 130 #[.int .i64 d, .int .i64 n, v] w0 fun e w' => ∃ b v bs, e = .returned (.pointer (some ⟨b, 0, none⟩)) ∧ St [] w0 w' [tabC b d n v (expT d n (stpT d n xs)).bad, tabV v (expT d n (stpT d n xs)).vals bs] := by
  have S := St.start w0
  obtain ⟨A, c, rfl, hc1, hc2⟩ := hR.slice
  unfold maxLen at hc2
  have hnl : (newT d n).vals.length = (allW d n).length := (TOk.new hd3 hn8).len
  have hl2 := allW_len_le hd3 hn8
  have hO := TOk.step (d := d) (n := n) hd3 hn8 hx
  rw [← hnl] at hl hl2
  replace hnl := hid hnl
  go_enter Try.func130, Try.ntmps130
  go_wp2_with (go_at_call 85; refine (newTable_ok d n _ hd3 hn8).mono ?_; rintro e w1 ⟨b2, v2, bs2, rfl, T⟩; have S := S.grow2 T; clear T; obtain ⟨A2, c2, rfl, -, -⟩ := own_slice S (.tail _ (.head _)))
  generalize hnv : (newT d n).vals = nv at *
  have hst : stpT d n xs = ⟨stpV nv xs xs.length, false⟩ := by unfold stpT; rw [hnv]
  replace hst := hid hst
  clear hnv
  have hsl := hid (stpV_len nv xs)
  go_loopw [15] (fun i wr => ∃ k : Nat, k ≤ xs.length ∧ i = .int .i64 k ∧ St [] w0 wr [tabC b2 d n (.slice A2 nv.length c2) false, tabV (.slice A2 nv.length c2) (stpV nv xs k) bs2]) (fun i _ => xs.length - (intOf i).toNat)
  case atStart => exact ⟨0, Nat.zero_le _, rfl, S⟩
  case round =>
    clear S
    obtain ⟨k, hk, rfl, S⟩ := hrel
    by_cases hlt : k < xs.length
    · obtain ⟨ad, _, rfl, -, ⟨_, rfl, _⟩, hE⟩ := hR.getS k _ (List.getElem?_eq_getElem hlt)
      have hlv := hid (show 1 + k < (stpV nv xs k).length by rw [hsl.out]; omega)
      obtain ⟨g, -, -, rfl, -, -, -⟩ := own_getS S (.tail _ (.head _)) (1 + k) _ (List.getElem?_eq_getElem hlv.out)
      go_wp2_with (first
        | (with_reducible refine s_idxS (h := ?_))
        | ((with_reducible refine gd 19 ?_); refine s_ldE rfl (hE.step S.chg) rfl ?_))
      refine m_startS 10 [9] [0, 1, 2, 3, 4, 5, 6] S ?_
      clear S; intro w hQ S hcD
      (repeat (first | ((with_reducible apply m_P hQ); (case hn => repeat (with_reducible first | exact .zero | apply Nth.succ)); (case hc => kernel_rfl); (case hy => first | (apply y_addI <;> first | rfl | omega) | (apply y_idxS <;> first | rfl | omega) | (apply y_quo <;> first | rfl | assumption | omega) | (apply y_pure <;> first | rfl | (intro w'; go_simp; with_reducible rfl))); (case' h => simp only [Act.put, List.setIfInBounds_toArray, List.set_cons_zero, List.set_cons_succ])) | ((with_reducible apply m_R hQ); (case hn => repeat (with_reducible first | exact .zero | apply Nth.succ)); (case hc => kernel_rfl); (case hy => first | exact y_loadA S | exact y_load S | (apply y_addI <;> first | rfl | omega) | (apply y_idxS <;> first | rfl | omega)); (case' h => simp only [Act.put, List.setIfInBounds_toArray, List.set_cons_zero, List.set_cons_succ]))))
      refine m_G 7 [8] (by kernel_rfl) (by repeat (with_reducible first | exact .zero | apply Nth.succ)) ?_
      go_wp2_with (go_at_call 168; refine (whole_ok _ _).mono ?_; rintro e w1 ⟨rfl, hcN⟩; have S := S.step hcN)
      refine ⟨.inr hcN, ?_⟩; clear hcN; simp only [Act.put, List.setIfInBounds_toArray, List.set_cons_zero, List.set_cons_succ]
      (repeat (first | ((with_reducible apply m_P hQ); (case hn => repeat (with_reducible first | exact .zero | apply Nth.succ)); (case hc => kernel_rfl); (case hy => first | (apply y_addI <;> first | rfl | omega) | (apply y_idxS <;> first | rfl | omega) | (apply y_quo <;> first | rfl | assumption | omega) | (apply y_pure <;> first | rfl | (intro w'; go_simp; with_reducible rfl))); (case' h => simp only [Act.put, List.setIfInBounds_toArray, List.set_cons_zero, List.set_cons_succ])) | ((with_reducible apply m_R hQ); (case hn => repeat (with_reducible first | exact .zero | apply Nth.succ)); (case hc => kernel_rfl); (case hy => first | exact y_loadA S | exact y_load S | (apply y_addI <;> first | rfl | omega) | (apply y_idxS <;> first | rfl | omega)); (case' h => simp only [Act.put, List.setIfInBounds_toArray, List.set_cons_zero, List.set_cons_succ]))))
      refine m_G 9 [] (by kernel_rfl) (by repeat (with_reducible first | exact .zero | apply Nth.succ)) ?_
      go_wp2_with ((with_reducible refine gs 28 ?_); refine s_stW (i := 1 + k) (y0 := (⟨xs[k], 1⟩ : Frac)) S (.there .here) rfl (by first | exact At.of | exact At.at_) hlv.out rfl rfl ?_; clear S; intro w2 S)
      refine ⟨.inl rfl, ?_⟩; simp only [Act.put, List.setIfInBounds_toArray, List.set_cons_zero, List.set_cons_succ]
      (refine m_end (by kernel_rfl) ?_; refine (by assumption : ∀ a w, Code.wp _ _ _ a w → _) _ _ ?_)
      go_wp2
      go_roundw
      case rel =>
        refine ⟨k + 1, hlt, by go_num, ?_⟩
        rw [stpV, show xs.getD k 0 = xs[k] from by simp [hlt]]
        exact S
      case measure => simp [intOf]; omega
    · obtain rfl : k = xs.length := by omega
      have S : St [] w0 wr [tabC b2 d n (.slice A2 nv.length c2) (stpT d n xs).bad, tabV (.slice A2 nv.length c2) (stpT d n xs).vals bs2] := by rw [hst.out]; exact S
      go_wp2_with (go_at_call 171; refine (exponential_ok _ d n _ (stpT d n xs) _ (TabR.of (t := stpT d n xs) S (by repeat (with_reducible first | exact List.mem_cons_self | apply List.mem_cons_of_mem)) (by repeat (with_reducible first | exact List.mem_cons_self | apply List.mem_cons_of_mem))) hO).mono ?_; rintro e w1 ⟨b3, v3, bs3, rfl, T⟩; have S := S.grow2 T; clear T)
      refine s_ret1 S (h := ?_)
      exact ⟨b3, v3, bs3, rfl, S.sel (by repeat (first | exact Sel.nil | (apply Sel.cons (by repeat (first | exact Rem.here | apply Rem.there)))))⟩
set_option maxRecDepth 100000 in
theorem signature_ok (d n : Nat) (path : List (List Int)) (v : Value) (w0 : World) (hR : Rd (sl 31 (sl 2 dInt)) w0 path [v]) (hd3 : d ≤ 3) (hn8 : n ≤ 8) (hl : ∀ xs ∈ path, xs.length + 1 ≤ (allW d n).length) (hx : ∀ xs ∈ path, small 1000000000 xs) :
    Calls Try.prog 71 #[.int .i64 d, .int .i64 n, v] w0 fun e w' => ∃ b v bs, e = .returned (.pointer (some ⟨b, 0, none⟩)) ∧ St [] w0 w' [tabC b d n v (sigT d n path).bad, tabV v (sigT d n path).vals bs] := by
  have S := St.start w0
  obtain ⟨A, c, rfl, hc1, hc2⟩ := hR.slice
  unfold maxLen at hc2
  replace hl := hid hl
  go_enter Try.func71, Try.ntmps71
  go_wp2_with (first
    | (go_at_call 85; refine (newTable_ok d n _ hd3 hn8).mono ?_; rintro e w1 ⟨b2, v2, bs2, rfl, T⟩; have S : St [] w0 _ [tabC b2 d n v2 (newT d n).bad, tabV v2 (newT d n).vals bs2] := S.grow2 T; clear T)
    | (go_at_call 128; refine (unit_ok _ d n _ (newT d n) _ (TabR.of (t := newT d n) S (by repeat (with_reducible first | exact List.mem_cons_self | apply List.mem_cons_of_mem)) (by repeat (with_reducible first | exact List.mem_cons_self | apply List.mem_cons_of_mem))) hd3 hn8).mono ?_; rintro e w1 ⟨b3, v3, bs3, rfl, T⟩; have S := S.grow2 T; clear T))
  have S := S.sel (H' := [tabC b3 d n v3 (sigT d n (path.take 0)).bad, tabV v3 (sigT d n (path.take 0)).vals bs3]) (.cons .here (.cons .here .nil))
  go_loopw [7, 16] (fun o i wr => ∃ (k b : Nat) (v : Value) (bs : List Nat), k ≤ path.length ∧ i = .int .i64 k ∧ o = .pointer (some ⟨b, 0, none⟩) ∧ St [] w0 wr [tabC b d n v (sigT d n (path.take k)).bad, tabV v (sigT d n (path.take k)).vals bs]) (fun _ i _ => path.length - (intOf i).toNat)
  case atStart => exact ⟨0, b3, v3, bs3, Nat.zero_le _, rfl, rfl, S⟩
  case round =>
    clear S
    obtain ⟨k, b, v, bs, hk, rfl, rfl, S⟩ := hrel
    by_cases hlt : k < path.length
    · obtain ⟨ad, cy, rfl, -, hRi, hE⟩ := hR.getS k _ (List.getElem?_eq_getElem hlt)
      obtain ⟨v', rfl⟩ := sl_one hRi
      have hO := TOk.sig (d := d) (n := n) hd3 hn8 (path.take k)
      have hxi := hx _ (List.getElem_mem hlt)
      have hli := hl.out _ (List.getElem_mem hlt)
      have hOs := (TOk.step (d := d) (n := n) hd3 hn8 hxi).powers 0 expC
      have hnx := hid (sigT_next (d := d) (n := n) hlt)
      replace hli := hid hli
      generalize sigT d n (path.take k) = tk at *
      go_wp2_with (first
        | (with_reducible refine s_idxS (h := ?_))
        | ((with_reducible refine gd 19 ?_); refine s_ldE rfl (hE.step S.chg) rfl ?_)
        | (go_at_call 130; refine (stepSignature_ok d n path[k] _ _ (hRi.step S.chg) hd3 hn8 hli.out hxi).mono ?_; rintro e w1 ⟨b4, v4, bs4, rfl, T⟩; have S := S.grow2 T; clear T)
        | (go_at_call 129; refine (tabTimes_ok _ d n _ tk _ _ (expT d n (stpT d n path[k])) _ (TabR.of (t := tk) S (by repeat (with_reducible first | exact List.mem_cons_self | apply List.mem_cons_of_mem)) (by repeat (with_reducible first | exact List.mem_cons_self | apply List.mem_cons_of_mem))) hO (TabR.of (t := expT d n (stpT d n path[k])) S (by repeat (with_reducible first | exact List.mem_cons_self | apply List.mem_cons_of_mem)) (by repeat (with_reducible first | exact List.mem_cons_self | apply List.mem_cons_of_mem))) hOs).mono ?_; rintro e w1 ⟨b5, v5, bs5, rfl, T⟩; have S := S.grow2 T; clear T))
      go_roundw
      case rel =>
        refine ⟨k + 1, b5, v5, bs5, hlt, by go_num, rfl, ?_⟩
        rw [hnx.out]
        exact S.sel (by repeat (first | exact Sel.nil | (apply Sel.cons (by repeat (first | exact Rem.here | apply Rem.there)))))
      case measure => simp [intOf]; omega
    · obtain rfl : k = path.length := by omega
      go_wp2
      refine s_ret1 S (h := ?_)
      rw [List.take_length] at S
      exact ⟨b, v, bs, rfl, S⟩
end Go.Proofs.Ytcfialfgkkjlfaa
