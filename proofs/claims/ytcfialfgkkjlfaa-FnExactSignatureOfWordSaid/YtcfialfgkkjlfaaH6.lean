/- Group words of the reference: contracts of l09Is, l09Code, l09Depth, l09Signature. Group words: contracts of SignatureOfWord and DepthOfWord of the reference. Group words: contracts of DepthOfWord of the program. -/
import Derived.Test.YtcfialfgkkjlfaaE7
import Derived.Test.YtcfialfgkkjlfaaG13
import Derived.Test.YtcfialfgkkjlfaaH3
set_option linter.unusedSimpArgs false
set_option linter.unusedVariables false
namespace Go.Sg
open Go.Sx
/-- The length of the first word that is not empty. -/
def depL : List Term → Int
  | [] => 0
  | t :: ts => if 0 < t.word.size then t.word.size else depL ts
end Go.Sg
namespace Go.Proofs.Ytcfialfgkkjlfaa
open Go.RowKit Go.Sx Go.Sg
theorem any_at' {p : Int → Bool} {xs : List Int} {k : Nat} (h : k < xs.length) (hx : p xs[k] = true) : xs.any p = true := List.any_eq_true.2 ⟨_, List.getElem_mem h, hx⟩
set_option maxRecDepth 100000 in
theorem l09Is_ok (d : Int) (xs : List Int) (v : Value) (w0 : World) (hR : Rd (sl 2 dInt) w0 xs [v]) :
    Calls Try.prog 122 #[.int .i64 d, v] w0 fun e w' => e = .returned (.bool (isGW d xs)) ∧ Chg [] w0 w' := by
  have S := St.start w0
  obtain ⟨A, c, rfl, hc1, hc2⟩ := hR.slice
  unfold maxLen at hc2
  have e : isGW d xs = (inB d 1 3 && (decide ((xs.length : Int) ≤ 12) && !xs.any (badG d))) := rfl
  rw [e]
  cases hin : inB d 1 3
  · go_enter Try.func122, Try.ntmps122
    go_wp2_with (first
      | ((with_reducible refine s_box S (h := ?_)); clear S; intro b w S hcN; clear hcN) | ((with_reducible refine s_alloc S (h := ?_)); clear S; intro b w S hcN; clear hcN) | (with_reducible refine s_load S (h := ?_)) | (with_reducible refine s_loadA S (h := ?_)) | ((with_reducible refine s_store S (h := ?_)); clear S; intro w S)
      | (go_at_call 79; refine (l01In_ok _ _ _ _).mono ?_; rintro e w1 ⟨rfl, hc⟩; have S := S.step hc; clear hc))
    all_goals refine s_ret1 S (h := ?_)
    all_goals refine ⟨?_, S.chg⟩
    all_goals simp [*]
  · obtain ⟨hd1, hd2⟩ := inB_iff.1 hin
    by_cases hl : (xs.length : Int) ≤ 12
    · have hl2 : decide ((xs.length : Int) ≤ 12) = true := decide_eq_true hl
      rw [hl2]
      clear hl2
      go_enter Try.func122, Try.ntmps122
      go_wp2_with (first
        | ((with_reducible refine s_box S (h := ?_)); clear S; intro b w S hcN; clear hcN) | ((with_reducible refine s_alloc S (h := ?_)); clear S; intro b w S hcN; clear hcN) | (with_reducible refine s_load S (h := ?_)) | (with_reducible refine s_loadA S (h := ?_)) | ((with_reducible refine s_store S (h := ?_)); clear S; intro w S)
        | (go_at_call 79; refine (l01In_ok _ _ _ _).mono ?_; rintro e w1 ⟨rfl, hc⟩; have S := S.step hc; clear hc))
      go_loopw [5] (fun i wr => ∃ k : Nat, k ≤ xs.length ∧ i = .int .i64 k ∧ Hid ((xs.take k).any (badG d) = false) ∧ St [] w0 wr []) (fun i _ => xs.length - (intOf i).toNat)
      case atStart => exact ⟨0, Nat.zero_le _, rfl, hid rfl, S⟩
      case round =>
        clear S
        obtain ⟨k, hk, rfl, hp, S⟩ := hrel
        by_cases hlt : k < xs.length
        · obtain ⟨ad, cy, rfl, -, ⟨_, rfl, _⟩, hE⟩ := (S.rd hR).getS k _ (List.getElem?_eq_getElem hlt)
          have eb : badG d xs[k] = (xs[k] == 0 || !inB xs[k] (-d) d) := rfl
          have hnx := fun h : badG d xs[k] = false => hid (any_next hlt hp.out h)
          have hno := fun h : badG d xs[k] = true => hid (any_at' (p := badG d) hlt h)
          rw [eb] at hnx hno
          clear eb hp
          generalize xs[k] = x at *
          cases h0 : (x == 0)
          · rw [h0] at hnx hno
            go_wp2_with (first
              | (with_reducible refine s_idxS (h := ?_))
              | ((with_reducible refine gd 23 ?_); refine s_ldE rfl hE rfl ?_)
              | ((with_reducible refine gd 29 ?_); first | (with_reducible refine s_skip ?_) | refine s_ldE rfl hE rfl ?_)
              | (go_at_call 79; refine (l01In_ok _ _ _ _).mono ?_; rintro e w1 ⟨rfl, hc⟩; have S := S.step hc; clear hc))
            case' roundEnd =>
              go_roundw
              case rel => exact ⟨k + 1, hlt, by go_num, hnx (by simp [*]), S⟩
              case measure => simp [intOf]; omega
            all_goals refine s_ret1 S (h := ?_)
            all_goals exact ⟨by rw [(hno (by simp [*])).out]; rfl, S.chg⟩
          · rw [h0] at hnx hno
            go_wp2_with (first
              | (with_reducible refine s_idxS (h := ?_))
              | ((with_reducible refine gd 23 ?_); refine s_ldE rfl hE rfl ?_)
              | ((with_reducible refine gd 29 ?_); first | (with_reducible refine s_skip ?_) | refine s_ldE rfl hE rfl ?_)
              | (go_at_call 79; refine (l01In_ok _ _ _ _).mono ?_; rintro e w1 ⟨rfl, hc⟩; have S := S.step hc; clear hc))
            all_goals refine s_ret1 S (h := ?_)
            all_goals exact ⟨by rw [(hno rfl).out]; rfl, S.chg⟩
        · obtain rfl : k = xs.length := by omega
          go_wp2
          refine s_ret1 S (h := ?_)
          have h := hp.out
          rw [List.take_length] at h
          exact ⟨by rw [h]; rfl, S.chg⟩
    · go_enter Try.func122, Try.ntmps122
      go_wp2_with (first
        | ((with_reducible refine s_box S (h := ?_)); clear S; intro b w S hcN; clear hcN) | ((with_reducible refine s_alloc S (h := ?_)); clear S; intro b w S hcN; clear hcN) | (with_reducible refine s_load S (h := ?_)) | (with_reducible refine s_loadA S (h := ?_)) | ((with_reducible refine s_store S (h := ?_)); clear S; intro w S)
        | (go_at_call 79; refine (l01In_ok _ _ _ _).mono ?_; rintro e w1 ⟨rfl, hc⟩; have S := S.step hc; clear hc))
      all_goals refine s_ret1 S (h := ?_)
      all_goals refine ⟨?_, S.chg⟩
      all_goals rw [decide_eq_false (by omega)]; rfl
/-- The answer's code of a level and a group word. -/
def codS (d n : Int) (xs : List Int) : Int := if (lvl d n && isGW d xs) = true then 0 else 2
set_option maxRecDepth 100000 in
theorem l09Code_ok (d n : Int) (xs : List Int) (v : Value) (w0 : World) (hR : Rd (sl 2 dInt) w0 xs [v]) :
    Calls Try.prog 66 #[.int .i64 d, .int .i64 n, v] w0 fun e w' => e = .returned (.int .i64 (codS d n xs)) ∧ Chg [] w0 w' := by
  have S := St.start w0
  unfold codS
  cases hl : lvl d n
  all_goals cases hg : isGW d xs
  all_goals go_enter Try.func66, Try.ntmps66
  all_goals go_wp2_with (first
    | (go_at_call 121; refine (l01Sizes_ok _ _ _).mono ?_; rintro e w1 ⟨rfl, hc⟩; have S := S.step hc; clear hc)
    | (go_at_call 122; refine (l09Is_ok d xs _ _ (S.rd hR)).mono ?_; rintro e w1 ⟨rfl, hc⟩; have S := S.step hc; clear hc))
  all_goals refine s_ret1 S (h := ?_)
  all_goals refine ⟨?_, S.chg⟩
  all_goals simp [*] at *
theorem drop_depL {xs : List Term} {k : Nat} (h : k < xs.length) : depL (xs.drop k) = if 0 < (xs[k]).word.size then ((xs[k]).word.size : Int) else depL (xs.drop (k + 1)) := by
  rw [drop_cons h]
  rfl
set_option maxRecDepth 100000 in
theorem l09Depth_ok (d n : Int) (xs : List Term) (v : Value) (w0 : World) (hR : Rd (sl 98 dTerm) w0 xs [v]) (hs : ∀ t ∈ xs, t.word.size ≤ 8) :
    Calls Try.prog 67 #[.agg #[.int .i64 d, .int .i64 n, v]] w0 fun e w' => e = .returned (.int .i64 (depL xs)) ∧ Chg [] w0 w' := by
  have S := St.start w0
  obtain ⟨A, c, rfl, hc1, hc2⟩ := hR.slice
  unfold maxLen at hc2
  go_enter Try.func67, Try.ntmps67
  go_wp2_with (first
    | ((with_reducible refine s_box S (h := ?_)); clear S; intro b2 w S hcN; clear hcN))
  go_loopw [3] (fun i wr => ∃ k : Nat, k ≤ xs.length ∧ i = .int .i64 k ∧ Hid (depL (xs.drop k) = depL xs) ∧ St [] w0 wr [serC b2 d n (.slice A xs.length c)]) (fun i _ => xs.length - (intOf i).toNat)
  case atStart => exact ⟨0, Nat.zero_le _, rfl, hid rfl, S.sel (by repeat (first | exact Sel.nil | (apply Sel.cons (by repeat (first | exact Rem.here | apply Rem.there)))))⟩
  case round =>
    clear S
    obtain ⟨k, hk, rfl, hp, S⟩ := hrel
    by_cases hlt : k < xs.length
    · obtain ⟨ad, _, rfl, -, ⟨_, rfl, _⟩, hE⟩ := hR.getS k _ (List.getElem?_eq_getElem hlt)
      have hsz := hs _ (List.getElem_mem hlt)
      have hp := hp.out
      rw [drop_depL hlt] at hp
      replace hp := hid hp
      generalize xs[k] = t0 at *
      replace hE : El _ _ [.string t0.word, .int .i64 t0.val.num, .int .i64 t0.val.den] := hE
      go_wp2_with (first
        | (with_reducible refine s_load S (h := ?_))
        | (with_reducible refine s_idxS (h := ?_))
        | ((with_reducible refine gd 17 ?_); refine s_ldE rfl (hE.step S.chg) rfl ?_))
      case' roundEnd =>
        go_roundw
        case rel => exact ⟨k + 1, hlt, by go_num, hid (by have h := hp.out; rw [if_neg (by omega)] at h; exact h), S⟩
        case measure => simp [intOf]; omega
      all_goals refine s_ret1 S (h := ?_)
      all_goals refine ⟨?_, S.chg⟩
      all_goals (rw [← hp.out, if_pos (by omega)]; rfl)
    · obtain rfl : k = xs.length := by omega
      have hp := hp.out
      rw [List.drop_length] at hp
      go_wp2_with (first | (with_reducible refine s_load S (h := ?_)))
      refine s_ret1 S (h := ?_)
      refine ⟨?_, S.chg⟩
      rw [← hp]
      rfl
set_option maxRecDepth 100000 in
set_option maxHeartbeats 1000000 in
theorem l09Signature_ok (d n : Nat) (xs : List Int) (v : Value) (w0 : World) (hR : Rd (sl 2 dInt) w0 xs [v]) (hd : d ≤ 3) (hn : n ≤ 8) (hx : ∀ x ∈ xs, x ≠ 0 ∧ -3 ≤ x ∧ x ≤ 3) (ss : Nat → List Term) (h0 : ss 0 = [⟨⟨#[]⟩, ⟨1, 1⟩⟩]) (hlen : ∀ k, (ss k).length ≤ 1000) (hok : ∀ k, ∀ t ∈ ss k, isF t.val = true ∧ t.word.size ≤ n) (hst : ∀ (k : Nat) (h : k < xs.length), stepO n (letB ((xs[k].natAbs : Int) - 1)) (sgn xs[k]) (ss k) [] = some (ss (k + 1))) :
    Calls Try.prog 68 #[.int .i64 d, .int .i64 n, v] w0 fun e w' => ∃ v bs, e = .returned (.agg #[.int .i64 d, .int .i64 n, v]) ∧ St [] w0 w' [serV v (ss xs.length) bs] := by
  have S := St.start w0
  obtain ⟨A, c, rfl, hc1, hc2⟩ := hR.slice
  unfold maxLen at hc2
  replace h0 := hid h0
  replace hlen := hid hlen
  replace hok := hid hok
  replace hst := hid hst
  replace hx := hid hx
  go_enter Try.func68, Try.ntmps68
  go_wp2_with (first
    | ((with_reducible refine gd 6 ?_); (with_reducible refine s_alloc S (h := ?_)); clear S; intro b6 w S hcN; clear hcN)
    | ((with_reducible refine gd 7 ?_); (with_reducible refine s_alloc S (h := ?_)); clear S; intro b7 w S hcN; clear hcN)
    | (go_at_call 123; refine (l01One_ok d n ⟨#[]⟩ _).mono ?_; rintro e w1 ⟨v1, bs1, rfl, T⟩; rw [← h0.out] at T; have S := S.grow1 T; clear T; obtain ⟨A1, c1, rfl, -, -⟩ := own_slice S (.head _))
    | ((with_reducible refine s_box S (h := ?_)); clear S; intro b w S hcN; clear hcN) | ((with_reducible refine s_alloc S (h := ?_)); clear S; intro b w S hcN; clear hcN) | (with_reducible refine s_load S (h := ?_)) | (with_reducible refine s_loadA S (h := ?_)) | ((with_reducible refine s_store S (h := ?_)); clear S; intro w S))
  have S := S.sel (H' := [serV (.slice A1 (ss 0).length c1) (ss 0) bs1, serC b7 d n (.slice A1 (ss 0).length c1), serC b6 0 0 (.slice none 0 0)]) (by repeat (first | exact Sel.nil | (apply Sel.cons (by repeat (first | exact Rem.here | apply Rem.there)))))
  go_loopw [8] (fun i wr => ∃ (k : Nat) (vo : Value) (bo : List Nat), k ≤ xs.length ∧ i = .int .i64 k ∧ St [] w0 wr [serV vo (ss k) bo, serC b7 d n vo, serC b6 0 0 (.slice none 0 0)]) (fun i _ => xs.length - (intOf i).toNat)
  case atStart => exact ⟨0, _, bs1, Nat.zero_le _, rfl, S⟩
  case round =>
    clear S
    obtain ⟨k, vo, bo, hk, rfl, S⟩ := hrel
    obtain ⟨A2, c2, rfl, -, -⟩ := own_slice S (.head _)
    have hl1 := hid (hlen.out k)
    have ho1 := hid (hok.out k)
    by_cases hlt : k < xs.length
    · obtain ⟨ad, _, rfl, -, ⟨_, rfl, _⟩, hE⟩ := hR.getS k _ (List.getElem?_eq_getElem hlt)
      have hs1 := hid (hst.out k hlt)
      obtain ⟨hx0, hx1, hx2⟩ := hx.out _ (List.getElem_mem hlt)
      generalize xs[k] = x at *
      go_wp2_with (first | ((with_reducible refine s_box S (h := ?_)); clear S; intro b w S hcN; clear hcN) | ((with_reducible refine s_alloc S (h := ?_)); clear S; intro b w S hcN; clear hcN) | (with_reducible refine s_load S (h := ?_)) | (with_reducible refine s_loadA S (h := ?_)) | ((with_reducible refine s_store S (h := ?_)); clear S; intro w S))
      refine m_startS 7 [6] [0, 1, 2, 3, 4] S ?_
      clear S; intro w hQ S hcD
      (repeat (first | ((with_reducible apply m_P hQ); (case hn => repeat (with_reducible first | exact .zero | apply Nth.succ)); (case hc => kernel_rfl); (case hy => first | exact y_load S | exact y_ldE (hE.step S.chg) | (apply y_idxS <;> first | rfl | omega) | (apply y_quo <;> first | rfl | assumption | omega) | (apply y_pure <;> first | rfl | (intro w'; go_simp; with_reducible rfl))); (case' h => simp only [Act.put, List.setIfInBounds_toArray, List.set_cons_zero, List.set_cons_succ])) | ((with_reducible apply m_R hQ); (case hn => repeat (with_reducible first | exact .zero | apply Nth.succ)); (case hc => kernel_rfl); (case hy => first | exact y_loadA S | exact y_load S | exact y_load S | exact y_ldE (hE.step S.chg) | (apply y_idxS <;> first | rfl | omega)); (case' h => simp only [Act.put, List.setIfInBounds_toArray, List.set_cons_zero, List.set_cons_succ]))))
      refine m_G 5 [] (by kernel_rfl) (by repeat (with_reducible first | exact .zero | apply Nth.succ)) ?_
      go_wp2_with (go_at_call 124; refine (l09Step_ok d n (ss k) x _ _ (S.own_rd (by repeat (with_reducible first | exact List.mem_cons_self | apply List.mem_cons_of_mem))) hd hn hx0 hx1 hx2 hl1.out ho1.out (ss (k + 1)) hs1.out).mono ?_; rintro e w1 ⟨v3, bs3, rfl, T⟩; have hcN := T.chg; have S := S.grow1 T; clear T; obtain ⟨A3, c3, rfl, -, -⟩ := own_slice S (.head _))
      refine ⟨.inr hcN, ?_⟩; clear hcN; simp only [Act.put, List.setIfInBounds_toArray, List.set_cons_zero, List.set_cons_succ]
      refine m_G 6 [] (by kernel_rfl) (by repeat (with_reducible first | exact .zero | apply Nth.succ)) ?_
      go_wp2_with ((first | ((with_reducible refine s_box S (h := ?_)); clear S; intro b w S hcN; clear hcN) | ((with_reducible refine s_alloc S (h := ?_)); clear S; intro b w S hcN; clear hcN) | (with_reducible refine s_load S (h := ?_)) | (with_reducible refine s_loadA S (h := ?_)) | ((with_reducible refine s_store S (h := ?_)); clear S; intro w S)))
      refine ⟨.inl rfl, ?_⟩; simp only [Act.put, List.setIfInBounds_toArray, List.set_cons_zero, List.set_cons_succ]
      (refine m_end (by kernel_rfl) ?_; refine (by assumption : ∀ a w, Code.wp _ _ _ a w → _) _ _ ?_)
      go_wp2
      go_roundw
      case rel => exact ⟨k + 1, .slice A3 (ss (k + 1)).length c3, bs3, hlt, by go_num, S.sel (by repeat (first | exact Sel.nil | (apply Sel.cons (by repeat (first | exact Rem.here | apply Rem.there)))))⟩
      case measure => simp [intOf]; omega
    · obtain rfl : k = xs.length := by omega
      go_wp2_with (first | ((with_reducible refine s_box S (h := ?_)); clear S; intro b w S hcN; clear hcN) | ((with_reducible refine s_alloc S (h := ?_)); clear S; intro b w S hcN; clear hcN) | (with_reducible refine s_load S (h := ?_)) | (with_reducible refine s_loadA S (h := ?_)) | ((with_reducible refine s_store S (h := ?_)); clear S; intro w S))
      refine s_ret1 S (h := ?_)
      exact ⟨.slice A2 (ss xs.length).length c2, bo, rfl, S.sel (by repeat (first | exact Sel.nil | (apply Sel.cons (by repeat (first | exact Rem.here | apply Rem.there)))))⟩
end Go.Proofs.Ytcfialfgkkjlfaa
set_option linter.unusedSimpArgs false
set_option linter.unusedVariables false
namespace Go.Proofs.Ytcfialfgkkjlfaa
open Go.RowKit Go.Sx Go.Sg
/-- The lists of terms that the reference makes, number after number. -/
def Steps (n : Nat) (xs : List Int) (ss : Nat → List Term) : Prop :=
  ss 0 = [⟨⟨#[]⟩, ⟨1, 1⟩⟩] ∧ (∀ k, (ss k).length ≤ 1000) ∧ (∀ k, ∀ t ∈ ss k, isF t.val = true ∧ t.word.size ≤ n) ∧ ∀ (k : Nat) (h : k < xs.length), stepO n (letB ((xs[k].natAbs : Int) - 1)) (sgn xs[k]) (ss k) [] = some (ss (k + 1))
theorem codS_no {d n : Int} {xs : List Int} (h : (isGW d xs && lvl d n) = false) : codS d n xs = 2 := by
  unfold codS
  rw [Bool.and_comm] at h
  rw [if_neg (by simp [h])]
theorem codS_yes {d n : Int} {xs : List Int} (hg : isGW d xs = true) (hl : lvl d n = true) : codS d n xs = 0 := by
  unfold codS
  rw [if_pos (by simp [hg, hl])]
theorem SignatureOfWordS_no (d n : Int) (xs : List Int) (v : Value) (w0 : World) (hR : Rd (sl 2 dInt) w0 xs [v]) (h : (isGW d xs && lvl d n) = false) :
    Calls Try.prog 20 #[.int .i64 d, .int .i64 n, v] w0 fun e w' => e = .returned (.tuple #[.agg #[.int .i64 0, .int .i64 0, .slice none 0 0], .int .i64 2]) ∧ St [] w0 w' [serV (.slice none 0 0) [] []] := by
  have S := St.start w0
  go_enter Try.func20, Try.ntmps20
  go_wp2_with (first
    | ((with_reducible refine s_box S (h := ?_)); clear S; intro b w S hcN; clear hcN) | ((with_reducible refine s_alloc S (h := ?_)); clear S; intro b w S hcN; clear hcN) | (with_reducible refine s_load S (h := ?_)) | (with_reducible refine s_loadA S (h := ?_)) | ((with_reducible refine s_store S (h := ?_)); clear S; intro w S)
    | (go_at_call 66; refine (l09Code_ok d n xs _ _ (S.rd hR)).mono ?_; rw [codS_no h]; rintro e w1 ⟨rfl, hc⟩; have S := S.step hc; clear hc))
  refine s_ret2 S (h := ?_)
  exact ⟨rfl, S.nilOwn⟩
set_option maxRecDepth 100000 in
theorem SignatureOfWordS_yes (d n : Int) (xs : List Int) (v : Value) (w0 : World) (hR : Rd (sl 2 dInt) w0 xs [v]) (hg : isGW d xs = true) (hl : lvl d n = true) (ss : Nat → List Term) (hs : Steps n.toNat xs ss) :
    Calls Try.prog 20 #[.int .i64 d, .int .i64 n, v] w0 fun e w' => ∃ v bs, e = .returned (.tuple #[.agg #[.int .i64 d, .int .i64 n, v], .int .i64 0]) ∧ St [] w0 w' [serV v (ss xs.length) bs] := by
  have S := St.start w0
  obtain ⟨hd1, hd2, hlen, hx⟩ := isGW_iff.1 hg
  obtain ⟨-, -, hn1, hn2, -⟩ := lvl_iff.1 hl
  obtain ⟨d, rfl⟩ := Int.eq_ofNat_of_zero_le (show 0 ≤ d by omega)
  obtain ⟨n, rfl⟩ := Int.eq_ofNat_of_zero_le (show 0 ≤ n by omega)
  have hd3 : d ≤ 3 := by omega
  have hn8 : n ≤ 8 := by omega
  replace hx := hid hx
  rw [Int.toNat_natCast] at hs
  obtain ⟨h1, h2, h3, h4⟩ := hs
  replace h1 := hid h1
  replace h2 := hid h2
  replace h3 := hid h3
  replace h4 := hid h4
  go_enter Try.func20, Try.ntmps20
  go_wp2_with (first
    | (go_at_call 66; refine (l09Code_ok d n xs _ _ (S.rd hR)).mono ?_; rw [codS_yes hg hl]; rintro e w1 ⟨rfl, hc⟩; have S := S.step hc; clear hc)
    | (go_at_call 68; refine (l09Signature_ok d n xs _ _ (S.rd hR) hd3 hn8 (fun x hxx => by have := hx.out x hxx; omega) ss h1.out h2.out h3.out h4.out).mono ?_; rintro e w1 ⟨v1, bs1, rfl, T⟩; have S := S.grow1 T; clear T; obtain ⟨A1, c1, rfl, -, -⟩ := own_slice S (.head _))
    | ((with_reducible refine s_box S (h := ?_)); clear S; intro b w S hcN; clear hcN) | ((with_reducible refine s_alloc S (h := ?_)); clear S; intro b w S hcN; clear hcN) | (with_reducible refine s_load S (h := ?_)) | (with_reducible refine s_loadA S (h := ?_)) | ((with_reducible refine s_store S (h := ?_)); clear S; intro w S))
  refine s_ret2 S (h := ?_)
  exact ⟨_, bs1, rfl, S.sel (by repeat (first | exact Sel.nil | (apply Sel.cons (by repeat (first | exact Rem.here | apply Rem.there)))))⟩
theorem DepthOfWordS_no (d n : Int) (xs : List Int) (v : Value) (w0 : World) (hR : Rd (sl 2 dInt) w0 xs [v]) (h : (isGW d xs && lvl d n) = false) :
    Calls Try.prog 16 #[.int .i64 d, .int .i64 n, v] w0 fun e w' => e = .returned (.tuple #[.int .i64 0, .int .i64 2]) ∧ Chg [] w0 w' := by
  have S := St.start w0
  go_enter Try.func16, Try.ntmps16
  go_wp2_with (first
    | ((with_reducible refine s_box S (h := ?_)); clear S; intro b w S hcN; clear hcN) | ((with_reducible refine s_alloc S (h := ?_)); clear S; intro b w S hcN; clear hcN) | (with_reducible refine s_load S (h := ?_)) | (with_reducible refine s_loadA S (h := ?_)) | ((with_reducible refine s_store S (h := ?_)); clear S; intro w S)
    | (go_at_call 66; refine (l09Code_ok d n xs _ _ (S.rd hR)).mono ?_; rw [codS_no h]; rintro e w1 ⟨rfl, hc⟩; have S := S.step hc; clear hc))
  refine s_ret2 S (h := ?_)
  exact ⟨rfl, S.chg⟩
set_option maxRecDepth 100000 in
theorem DepthOfWordS_yes (d n : Int) (xs : List Int) (v : Value) (w0 : World) (hR : Rd (sl 2 dInt) w0 xs [v]) (hg : isGW d xs = true) (hl : lvl d n = true) (ss : Nat → List Term) (hs : Steps n.toNat xs ss) :
    Calls Try.prog 16 #[.int .i64 d, .int .i64 n, v] w0 fun e w' => e = .returned (.tuple #[.int .i64 (depL (ss xs.length)), .int .i64 0]) ∧ Chg [] w0 w' := by
  have S := St.start w0
  obtain ⟨hd1, hd2, hlen, hx⟩ := isGW_iff.1 hg
  obtain ⟨-, -, hn1, hn2, -⟩ := lvl_iff.1 hl
  obtain ⟨d, rfl⟩ := Int.eq_ofNat_of_zero_le (show 0 ≤ d by omega)
  obtain ⟨n, rfl⟩ := Int.eq_ofNat_of_zero_le (show 0 ≤ n by omega)
  have hd3 : d ≤ 3 := by omega
  have hn8 : n ≤ 8 := by omega
  replace hx := hid hx
  rw [Int.toNat_natCast] at hs
  obtain ⟨h1, h2, h3, h4⟩ := hs
  replace h1 := hid h1
  replace h2 := hid h2
  replace h3 := hid h3
  replace h4 := hid h4
  go_enter Try.func16, Try.ntmps16
  go_wp2_with (first
    | (go_at_call 66; refine (l09Code_ok d n xs _ _ (S.rd hR)).mono ?_; rw [codS_yes hg hl]; rintro e w1 ⟨rfl, hc⟩; have S := S.step hc; clear hc)
    | (go_at_call 68; refine (l09Signature_ok d n xs _ _ (S.rd hR) hd3 hn8 (fun x hxx => by have := hx.out x hxx; omega) ss h1.out h2.out h3.out h4.out).mono ?_; rintro e w1 ⟨v1, bs1, rfl, T⟩; have S := S.grow1 T; clear T)
    | (go_at_call 67; refine (l09Depth_ok d n (ss xs.length) _ _ (S.own_rd (by repeat (with_reducible first | exact List.mem_cons_self | apply List.mem_cons_of_mem))) (fun t ht => Nat.le_trans (h3.out _ t ht).2 hn8)).mono ?_; rintro e w1 ⟨rfl, hc⟩; have S := S.step hc; clear hc))
  refine s_ret2 S (h := ?_)
  exact ⟨rfl, S.chg⟩
end Go.Proofs.Ytcfialfgkkjlfaa
set_option linter.unusedSimpArgs false
set_option linter.unusedVariables false
namespace Go.Proofs.Ytcfialfgkkjlfaa
open Go.RowKit Go.Sx Go.Sg
theorem isE_iff {b : ByteArray} : b.toList.isEmpty = true ↔ b.size = 0 := by
  rw [ByteArray.toList_eq, List.isEmpty_iff_length_eq_zero]
  exact Iff.rfl
theorem isE_no {b : ByteArray} (h : (!b.toList.isEmpty) = false) : ¬ 0 < b.size := by
  have h1 : b.toList.isEmpty = true := by simpa using h
  have := isE_iff.1 h1
  omega
theorem isE_yes {b : ByteArray} (h : (!b.toList.isEmpty) = true) : 0 < b.size := by
  have h1 : ¬ b.toList.isEmpty = true := by simpa using h
  exact Nat.pos_of_ne_zero (fun h2 => h1 (isE_iff.2 h2))
theorem DepthOfWord_no (d n : Int) (xs : List Int) (v : Value) (w0 : World) (hR : Rd (sl 2 dInt) w0 xs [v]) (h : (isGW d xs && lvl d n) = false) :
    Calls Try.prog 18 #[.int .i64 d, .int .i64 n, v] w0 fun e w' => e = .returned (.tuple #[.int .i64 0, .int .i64 2]) ∧ Chg [] w0 w' := by
  have S := St.start w0
  go_enter Try.func18, Try.ntmps18
  go_wp2_with (first
    | ((with_reducible refine s_box S (h := ?_)); clear S; intro b w S hcN; clear hcN) | ((with_reducible refine s_alloc S (h := ?_)); clear S; intro b w S hcN; clear hcN) | (with_reducible refine s_load S (h := ?_)) | (with_reducible refine s_loadA S (h := ?_)) | ((with_reducible refine s_store S (h := ?_)); clear S; intro w S)
    | (go_at_call 21; refine (SignatureOfWord_no d n xs _ _ (S.rd hR) h).mono ?_; rintro e w1 ⟨rfl, T⟩; have S := S.grow1 T; clear T))
  refine s_ret2 S (h := ?_)
  exact ⟨rfl, S.chg⟩
set_option maxRecDepth 100000 in
theorem DepthOfWord_yes (d n : Int) (xs : List Int) (v : Value) (w0 : World) (hR : Rd (sl 2 dInt) w0 xs [v]) (hg : isGW d xs = true) (hl : lvl d n = true) (hb : (gwT d.toNat n.toNat xs).bad = false) (ts : List Term) (hts : gwS d n xs = ts) (hlen : ts.length ≤ 1000) (hsz : ∀ t ∈ ts, t.word.size ≤ 8) :
    Calls Try.prog 18 #[.int .i64 d, .int .i64 n, v] w0 fun e w' => e = .returned (.tuple #[.int .i64 (depL ts), .int .i64 0]) ∧ Chg [] w0 w' := by
  have S := St.start w0
  replace hts := hid hts
  replace hsz := hid hsz
  go_enter Try.func18, Try.ntmps18
  go_wp2_with (first
    | (go_at_call 21; refine (SignatureOfWord_yes d n xs _ _ (S.rd hR) hg hl hb).mono ?_; rw [hts.out]; rintro e w1 ⟨v1, bs1, rfl, T⟩; have S := S.grow1 T; clear T; obtain ⟨A1, c1, rfl, -, -⟩ := own_slice S (.head _))
    | ((with_reducible refine gd 8 ?_); (with_reducible refine s_alloc S (h := ?_)); clear S; intro b8 w S hcN; clear hcN)
    | ((with_reducible refine s_box S (h := ?_)); clear S; intro b w S hcN; clear hcN) | ((with_reducible refine s_alloc S (h := ?_)); clear S; intro b w S hcN; clear hcN) | (with_reducible refine s_load S (h := ?_)) | (with_reducible refine s_loadA S (h := ?_)) | ((with_reducible refine s_store S (h := ?_)); clear S; intro w S))
  have S := S.sel (H' := [serV (.slice A1 ts.length c1) ts bs1, serC b8 d n (.slice A1 ts.length c1)]) (by repeat (first | exact Sel.nil | (apply Sel.cons (by repeat (first | exact Rem.here | apply Rem.there)))))
  go_loopw [25] (fun i wr => ∃ (k : Nat), k ≤ ts.length ∧ i = .int .i64 k ∧ Hid (depL (ts.drop k) = depL ts) ∧ St [] w0 wr [serV (.slice A1 ts.length c1) ts bs1, serC b8 d n (.slice A1 ts.length c1)]) (fun i _ => ts.length - (intOf i).toNat)
  case atStart => exact ⟨0, Nat.zero_le _, rfl, hid rfl, S⟩
  case round =>
    clear S
    obtain ⟨k, hk, rfl, hp, S⟩ := hrel
    by_cases hlt : k < ts.length
    · have hRr : Rd (sl 98 dTerm) wr ts [.slice A1 ts.length c1] := S.own_rd (.head _)
      obtain ⟨ad, _, rfl, -, ⟨_, rfl, _⟩, hE⟩ := hRr.getS k _ (List.getElem?_eq_getElem hlt)
      have hz := hsz.out _ (List.getElem_mem hlt)
      have hp := hp.out
      rw [drop_depL hlt] at hp
      replace hp := hid hp
      generalize ts[k] = t0 at *
      replace hE : El _ _ [.string t0.word, .int .i64 t0.val.num, .int .i64 t0.val.den] := hE
      go_wp2_with (first
        | ((with_reducible refine gd 28 ?_); refine s_ldEA rfl hE (by repeat (with_reducible first | exact Sub.done | apply Sub.here | apply Sub.there)) ?_)
        | ((with_reducible refine gd 11 ?_); (with_reducible refine s_alloc S (h := ?_)); clear S; intro b11 w S hcN; clear hcN)
        | (with_reducible refine s_idxS (h := ?_))
        | ((with_reducible refine s_box S (h := ?_)); clear S; intro b w S hcN; clear hcN) | ((with_reducible refine s_alloc S (h := ?_)); clear S; intro b w S hcN; clear hcN) | (with_reducible refine s_load S (h := ?_)) | (with_reducible refine s_loadA S (h := ?_)) | ((with_reducible refine s_store S (h := ?_)); clear S; intro w S))
      case' roundEnd =>
        go_roundw
        case rel => exact ⟨k + 1, hlt, by go_num, hid (by have h := hp.out; rw [if_neg (isE_no (by assumption))] at h; exact h), S.sel (by repeat (first | exact Sel.nil | (apply Sel.cons (by repeat (first | exact Rem.here | apply Rem.there)))))⟩
        case measure => simp [intOf]; omega
      all_goals refine s_ret2 S (h := ?_)
      all_goals refine ⟨?_, S.chg⟩
      all_goals (rw [← hp.out, if_pos (isE_yes (by assumption))]; rfl)
    · obtain rfl : k = ts.length := by omega
      have hp := hp.out
      rw [List.drop_length] at hp
      go_wp2_with (first | ((with_reducible refine s_box S (h := ?_)); clear S; intro b w S hcN; clear hcN) | ((with_reducible refine s_alloc S (h := ?_)); clear S; intro b w S hcN; clear hcN) | (with_reducible refine s_load S (h := ?_)) | (with_reducible refine s_loadA S (h := ?_)) | ((with_reducible refine s_store S (h := ?_)); clear S; intro w S))
      refine s_ret2 S (h := ?_)
      refine ⟨?_, S.chg⟩
      rw [← hp]
      rfl
end Go.Proofs.Ytcfialfgkkjlfaa
