/- Words and numbers of words; contracts of letter, whole, words. -/
import Derived.Test.YtcfialfgkkjlfaaE7
import Derived.Test.YtcfialfgkkjlfaaA11
set_option linter.unusedSimpArgs false
set_option linter.unusedVariables false
namespace Go.Sg
open Go.Sx
/-- A letter, as a text. -/
def letB (i : Int) : ByteArray := ⟨#[UInt8.ofNat (48 + i).toNat]⟩
/-- The words that are one letter longer, in order. -/
def longer (d : Nat) (l : List ByteArray) : List ByteArray := l.flatMap fun w => (List.range d).map fun i => w ++ letB (i : Nat)
/-- The words of n letters, in order. -/
def wordsL (d : Nat) : Nat → List ByteArray
  | 0 => [⟨#[]⟩]
  | n + 1 => longer d (wordsL d n)
/-- The words of at most n letters, in order. -/
def allW (d n : Nat) : List ByteArray := (List.range (n + 1)).flatMap (wordsL d)
theorem longer_len (d : Nat) (l : List ByteArray) : (longer d l).length = l.length * d := by
  unfold longer
  induction l with
  | nil => simp
  | cons x l ih => simp [List.flatMap_cons, ih, Nat.add_mul]; omega
theorem wordsL_len (d : Nat) : ∀ n, (wordsL d n).length = d ^ n
  | 0 => rfl
  | n + 1 => by rw [wordsL, longer_len, wordsL_len d n, Nat.pow_succ]
theorem letB_size (i : Int) : (letB i).size = 1 := rfl
theorem wordsL_size {d : Nat} : ∀ {n : Nat} {w : ByteArray}, w ∈ wordsL d n → w.size = n
  | 0, w, h => by rw [List.mem_singleton.1 h]; rfl
  | n + 1, w, h => by
    obtain ⟨u, hu, h⟩ := List.mem_flatMap.1 h
    obtain ⟨i, _, rfl⟩ := List.mem_map.1 h
    rw [ByteArray.size_append, wordsL_size hu, letB_size]
end Go.Sg
namespace Go.Proofs.Ytcfialfgkkjlfaa
open Go.RowKit Go.Sx Go.Sg
theorem whole_ok (n : Int) (w0 : World) : Calls Try.prog 168 #[.int .i64 n] w0 fun e w' => e = .returned (.agg #[.int .i64 n, .int .i64 1]) ∧ Chg [] w0 w' := by
  have S := St.start w0
  go_enter Try.func168, Try.ntmps168
  go_wp2_with (first | ((with_reducible refine s_box S (h := ?_)); clear S; intro b w S hcN; clear hcN) | ((with_reducible refine s_alloc S (h := ?_)); clear S; intro b w S hcN; clear hcN) | (with_reducible refine s_load S (h := ?_)) | (with_reducible refine s_loadA S (h := ?_)) | ((with_reducible refine s_store S (h := ?_)); clear S; intro w S))
  refine s_ret1 S (h := ?_)
  exact ⟨rfl, S.chg⟩
theorem letter_ok (i : Int) (w0 : World) (h0 : 0 ≤ i) (h1 : i ≤ 100) : Calls Try.prog 154 #[.int .i64 i] w0 fun e w' => e = .returned (.string (letB i)) ∧ Chg [] w0 w' := by
  have S := St.start w0
  go_enter Try.func154, Try.ntmps154
  go_wp2_with (first
    | ((with_reducible refine gd 6 ?_); refine s_bs (cs := [.int .u8 (48 + i)]) S ?_; clear S; intro b w1 S hcN; clear hcN)
    | ((with_reducible refine gd 7 ?_); refine s_b2s S (by kernel_rfl) (by kernel_rfl) rfl (.head _) ?_))
  refine s_ret1 S (h := ?_)
  exact ⟨rfl, S.chg⟩
set_option maxRecDepth 100000 in
theorem words_ok (d n : Nat) (w0 : World) (hd : d ≤ 3) (hn : n ≤ 8) : Calls Try.prog 102 #[.int .i64 d, .int .i64 n] w0 fun e w' => ∃ v bs, e = .returned v ∧ St [] w0 w' [own 9 dStr v (wordsL d n) bs] := by
  have S := St.start w0
  go_enter Try.func102, Try.ntmps102
  go_wp2_with (first
    | ((with_reducible refine gd 10 ?_); refine s_bs (cs := [.string ⟨#[]⟩]) S ?_; clear S; intro b w1 S hcN; clear hcN))
  have S := S.litOwn (fun _ => rfl) (fun _ u hu => by rw [List.mem_singleton.1 hu]; rfl) [(⟨#[]⟩ : ByteArray)] (enc := fun x => [.string x]) (m := 1) rfl (by simp [maxLen])
  replace S : St [] w0 _ [own 9 dStr (.slice (some ⟨b, 0, none⟩) 1 1) (wordsL d 0) [b]] := S
  go_loopw [5, 12] (fun u i wr => ∃ (k : Nat) (bs : List Nat), k ≤ n ∧ i = .int .i64 k ∧ St [] w0 wr [own 9 dStr u (wordsL d k) bs]) (fun _ i _ => n - (intOf i).toNat)
  case atStart => exact ⟨0, _, Nat.zero_le _, rfl, S⟩
  case round =>
    clear S
    obtain ⟨k, bs, hk, rfl, S⟩ := hrel
    obtain ⟨A, c, rfl, hc1, hc2⟩ := own_slice S (.head _)
    unfold maxLen at hc2
    have hlen := wordsL_len d k
    have hle : (wordsL d k).length ≤ 6561 := by rw [hlen]; exact Nat.le_trans (Nat.pow_le_pow_left hd k) (Nat.pow_le_pow_right (by omega) (show k ≤ 8 by omega))
    clear hlen
    by_cases hlt : k < n
    · have hsz : ∀ w ∈ wordsL d k, w.size ≤ 8 := fun w hw => by have := wordsL_size hw; omega
      generalize hl : wordsL d k = l at *
      replace hl := hid hl
      replace hsz := hid hsz
      go_wp2
      go_loopw [6, 16] (fun u i wr => ∃ (j : Nat) (bs2 : List Nat), j ≤ l.length ∧ i = .int .i64 j ∧ St [] w0 wr [own 9 dStr u (longer d (l.take j)) bs2, own 9 dStr (.slice A l.length c) l bs]) (fun _ i _ => l.length - (intOf i).toNat)
      case atStart => exact ⟨0, [], Nat.zero_le _, rfl, S.nilOwn2⟩
      case round =>
        clear S
        obtain ⟨j, bs2, hj, rfl, S⟩ := hrel
        by_cases hltj : j < l.length
        · obtain ⟨ad, cy, rfl, -, ⟨_, rfl, _⟩, hE⟩ := S.rd1.getS j _ (List.getElem?_eq_getElem hltj)
          go_wp2_with (first
            | (with_reducible refine s_idxS (h := ?_))
            | ((with_reducible refine gd 19 ?_); refine s_ldE rfl hE rfl ?_))
          go_loopw [6, 21] (fun u i wr => ∃ (p : Nat) (bs2 : List Nat), p ≤ d ∧ i = .int .i64 p ∧ St [] w0 wr [own 9 dStr u (longer d (l.take j) ++ (List.range p).map fun i => l[j] ++ letB (i : Nat)) bs2, own 9 dStr (.slice (some ad) l.length c) l bs]) (fun _ i _ => d - (intOf i).toNat)
          case atStart => exact ⟨0, _, Nat.zero_le _, rfl, by simpa using S⟩
          case round =>
            clear S hE
            obtain ⟨p, bs3, hp, rfl, S⟩ := hrel
            by_cases hltp : p < d
            · have hs1 := hsz.out _ (List.getElem_mem hltj)
              have hs2 := letB_size p
              have hb : ((longer d (l.take j) ++ (List.range p).map fun i => l[j] ++ letB (i : Nat)).length + 1) * 16 ≤ 140737488355328 := by
                have h1 : j * d ≤ 6561 * 3 := Nat.mul_le_mul (by omega) hd
                simp only [List.length_append, List.length_map, List.length_range, longer_len, List.length_take, Nat.min_eq_left hj]
                omega
              generalize hx : (longer d (l.take j) ++ (List.range p).map fun i => l[j] ++ letB (i : Nat)) = xs at *
              replace hb := hid hb
              replace hx := hid hx
              obtain ⟨A2, c2, rfl, -, -⟩ := own_slice S (.head _)
              go_wp2_with (first
                | (go_at_call 154; refine (letter_ok _ _ (by omega) (by omega)).mono ?_; rintro e w1 ⟨rfl, hc⟩; have S := S.step hc; clear hc)
                | ((with_reducible refine gd 29 ?_); refine s_bs (cs := [.string (l[j] ++ letB p)]) S ?_; clear S; intro b w1 S hcN; clear hcN)
                | ((with_reducible refine gd 30 ?_); refine s_app (x0 := l[j] ++ letB p) S rfl (by decide) (by decide) rfl rfl (.take (.take (Split.none _))) (fun _ => ⟨rfl, rfl⟩) hb.out ?_; clear S; intro A2 c2 bs3 w1 S))
              go_roundw
              case rel =>
                refine ⟨p + 1, bs3, hltp, by go_num, ?_⟩
                rw [List.range_succ, List.map_append, ← List.append_assoc, hx.out]
                exact S
              case measure => simp [intOf]; omega
            · obtain rfl : p = d := by omega
              go_wp2
              go_roundw
              case rel =>
                refine ⟨j + 1, bs3, hltj, by go_num, ?_⟩
                have e : longer p (l.take (j + 1)) = longer p (l.take j) ++ (List.range p).map fun i => l[j] ++ letB (i : Nat) := by
                  unfold longer
                  rw [take_next hltj, List.flatMap_append, List.flatMap_cons, List.flatMap_nil, List.append_nil]
                rw [e]
                exact S
              case measure => simp [intOf]; omega
        · obtain rfl : j = l.length := by omega
          go_wp2
          go_roundw
          case rel =>
            refine ⟨k + 1, bs2, hlt, by go_num, ?_⟩
            have S := S.pick (.take (.keep .nil))
            rw [List.take_length] at S
            rw [wordsL, hl.out]
            exact S
          case measure => simp [intOf]; omega
    · obtain rfl : k = n := by omega
      go_wp2
      refine s_ret1 S (h := ?_)
      exact ⟨_, _, rfl, S⟩
set_option maxRecDepth 100000 in
theorem allWords_ok (d n : Nat) (w0 : World) (hd : d ≤ 3) (hn : n ≤ 8) : Calls Try.prog 141 #[.int .i64 d, .int .i64 n] w0 fun e w' => ∃ v bs, e = .returned v ∧ St [] w0 w' [own 9 dStr v (allW d n) bs] := by
  have S := St.start w0
  go_enter Try.func141, Try.ntmps141
  go_wp2
  have S : St [] w0 w0 [own 9 dStr (.slice none 0 0) ((List.range 0).flatMap (wordsL d)) []] := S.nilOwn
  go_loopw [5, 9] (fun u i wr => ∃ (k : Nat) (bs : List Nat), k ≤ n + 1 ∧ i = .int .i64 k ∧ St [] w0 wr [own 9 dStr u ((List.range k).flatMap (wordsL d)) bs]) (fun _ i _ => n + 1 - (intOf i).toNat)
  case atStart => exact ⟨0, _, Nat.zero_le _, rfl, S⟩
  case round =>
    clear S
    obtain ⟨k, bs, hk, rfl, S⟩ := hrel
    by_cases hlt : k < n + 1
    · have hle : (wordsL d k).length ≤ 6561 := by rw [wordsL_len d k]; exact Nat.le_trans (Nat.pow_le_pow_left hd k) (Nat.pow_le_pow_right (by omega) (show k ≤ 8 by omega))
      have hle2 : ((List.range k).flatMap (wordsL d)).length ≤ k * 6561 := by
        clear S hlt hle
        induction k with
        | zero => simp
        | succ k ih =>
          rw [List.range_succ, List.flatMap_append, List.length_append]
          have h1 := ih (by omega)
          have h2 : (wordsL d k).length ≤ 6561 := by rw [wordsL_len d k]; exact Nat.le_trans (Nat.pow_le_pow_left hd k) (Nat.pow_le_pow_right (by omega) (show k ≤ 8 by omega))
          simp only [List.flatMap_cons, List.flatMap_nil, List.append_nil]
          omega
      have hb : (((List.range k).flatMap (wordsL d)).length + (wordsL d k).length) * 16 ≤ 140737488355328 := by omega
      clear hle hle2
      generalize hx : (List.range k).flatMap (wordsL d) = xs at *
      generalize hl : wordsL d k = l at *
      replace hb := hid hb
      replace hx := hid hx
      obtain ⟨A2, c2, rfl, -, -⟩ := own_slice S (.head _)
      go_wp2_with (first
        | (go_at_call 102; refine (words_ok d k _ hd (by omega)).mono ?_; rintro e w1 ⟨v2, bs2, rfl, T⟩; have S := S.grow1 T; clear T; rw [hl] at S; obtain ⟨A3, c3, rfl, -, -⟩ := own_slice S (.head _))
        | ((with_reducible refine gd 16 ?_); refine s_appR (ys := l) S rfl (by decide) (by decide) rfl rfl S.rd0 (.keep (.take (Split.none _))) hb.out ?_; clear S; intro A4 c4 bs4 w1 S))
      go_roundw
      case rel =>
        refine ⟨k + 1, bs4, hlt, by go_num, ?_⟩
        have S := S.pick (.take (.keep .nil))
        rw [List.range_succ, List.flatMap_append, hx.out]
        simp only [List.flatMap_cons, List.flatMap_nil, List.append_nil, hl]
        exact S
      case measure => simp [intOf]; omega
    · obtain rfl : k = n + 1 := by omega
      go_wp2
      refine s_ret1 S (h := ?_)
      exact ⟨_, _, rfl, S⟩
end Go.Proofs.Ytcfialfgkkjlfaa
