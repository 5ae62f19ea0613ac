/- Contracts: slices.Repeat of one element; closures over fractions. -/
import Derived.Test.YtcfialfgkkjlfaaC4
import Derived.Test.YtcfialfgkkjlfaaA9
import Derived.Laws.BitsLemmas
set_option linter.unusedSimpArgs false
set_option linter.unusedVariables false
namespace Go.Proofs.Ytcfialfgkkjlfaa
open Go.RowKit Go.Sx Go.Sg
theorem m_and (a : Nat) (h : a < 2147483648) : bits .and .u64 (a : Int) 4294967295 = (a : Int) := by
  have h := bits_mask .u64 63 (by decide) (fun n h₀ h₁ => by rw [IntKind.wrap_u64]; omega) 32 (by decide) (a : Int) (by omega) (by omega)
  have e : ((2 : Int) ^ 32 - 1) = 4294967295 := by decide
  have e2 : ((2 : Int) ^ 32) = 4294967296 := by decide
  rw [e, e2] at h
  rw [h]
  omega
set_option maxRecDepth 100000 in
theorem mul64_ok (n : Nat) (w : World) (h : n < 2147483648) : Calls Try.prog 179 #[.int .u64 1, .int .u64 n] w fun e w' => e = .returned (.tuple #[.int .u64 0, .int .u64 n]) ∧ Chg [] w w' := by
  have S := St.start w
  have h0 := m_and 0 (by omega)
  have h1 := m_and 1 (by omega)
  have hn := m_and n h
  simp only [Int.natCast_zero, Int.natCast_one] at h0 h1
  go_enter Try.func179, Try.ntmps179
  go_wp2
  refine s_ret2 S (h := ?_)
  refine ⟨?_, S.chg⟩
  show Ending.returned (.tuple #[.int .u64 _, .int .u64 _]) = _
  simp only [h0, h1, hn, IntKind.wrap_u64]
  have hd : (n : Int) / 4294967296 = 0 := by omega
  simp [hd, h0]
set_option maxRecDepth 100000 in
theorem mul_ok (n : Nat) (w : World) (h : n < 2147483648) : Calls Try.prog 164 #[.int .u64 1, .int .u64 n] w fun e w' => e = .returned (.tuple #[.int .u64 0, .int .u64 n]) ∧ Chg [] w w' := by
  have S := St.start w
  go_enter Try.func164, Try.ntmps164
  go_wp2_with (go_at_call 179; refine (mul64_ok n _ h).mono ?_; rintro e w1 ⟨rfl, hc⟩; have S := S.step hc; clear hc)
  refine s_ret2 S (h := ?_)
  exact ⟨rfl, S.chg⟩
set_option maxRecDepth 100000 in
/-- slices.Repeat of one element. -/
theorem repeatFraction_ok (z : Frac) (n : Nat) (v : Value) (w : World) (hR : Rd (sl 76 dFrac) w [z] [v]) (hn0 : 0 < n) (hn : n < 1073741824) :
    Calls Try.prog 118 #[v, .int .i64 n] w fun e w' => ∃ v' bs, e = .returned v' ∧ St [] w w' [own 76 dFrac v' (List.replicate n z) bs] := by
  have S := St.start w
  obtain ⟨A, c, rfl, hc1, hc2⟩ := hR.slice
  unfold maxLen at hc2
  have hbytes : n * 16 ≤ 281474976710656 := by omega
  obtain ⟨ad, cy, rfl, -, ⟨_, rfl, _⟩, hE0⟩ := hR.getS 0 z rfl
  have hE : El w ad ([z].map encF).flatten := by
    have e : ad.add (0 * dFrac.sz) = ad := by simp [Addr.add]
    rw [e] at hE0
    simpa using hE0
  go_enter Try.func118, Try.ntmps118
  have h31 : n < 2147483648 := by omega
  go_wp2_with (first
   | (go_at_call 164; refine (mul_ok n _ h31).mono ?_; rintro e w1 ⟨rfl, hc⟩; have S := S.step hc; clear hc)
   | ((with_reducible refine gd 30 ?_); refine s_make (m := n) (d := dFrac) (x0 := f00) S rfl (by decide) rfl rfl (fun _ => ⟨rfl, rfl⟩) hbytes (by unfold maxLen; omega) ?_; clear S; intro b w1 S)
   | ((with_reducible refine gd 33 ?_); refine s_copy (o := 0) (ys := [z]) S rfl .here rfl (by first | exact At.of | exact At.at_) rfl (hE.step S.chg) (by show 1 = min 1 n; omega) (by simp; omega) ?_; clear S; intro w1 S))
  go_loopw [8] (fun i wr => ∃ k : Nat, 0 < k ∧ k ≤ n ∧ i = .int .i64 k ∧ St [] w wr [own 76 dFrac (.slice (some ⟨b, 0, none⟩) n n) (List.replicate k z ++ List.replicate (n - k) f00) [b]]) (fun i _ => n - (intOf i).toNat)
  case atStart =>
    refine ⟨1, by omega, by omega, rfl, ?_⟩
    have e : List.take 0 (List.replicate n f00) ++ [z] ++ List.drop (0 + [z].length) (List.replicate n f00) = List.replicate 1 z ++ List.replicate (n - 1) f00 := by simp
    rw [e] at S
    exact S
  case round =>
    clear S
    obtain ⟨k, hk0, hk, rfl, S⟩ := hrel
    by_cases hlt : k < n
    · have hE2 := own_els S (.head _)
      have hE3 := El.rows (Nat.min k (n - k)) hE2
      have hmin : Nat.min k (n - k) ≤ k := Nat.min_le_left k (n - k)
      have hmin2 : Nat.min k (n - k) ≤ n - k := Nat.min_le_right k (n - k)
      have hpos : 0 < Nat.min k (n - k) := by show 0 < min k (n - k); omega
      have e2 : (List.replicate k z ++ List.replicate (n - k) f00).take (Nat.min k (n - k)) = List.replicate (Nat.min k (n - k)) z := by
        rw [List.take_append_of_le_length (by simpa using hmin), List.take_replicate, Nat.min_eq_left hmin]
      rw [e2] at hE3
      have e3 : (List.replicate k z ++ List.replicate (n - k) f00).take k ++ List.replicate (Nat.min k (n - k)) z ++ (List.replicate k z ++ List.replicate (n - k) f00).drop (k + (List.replicate (Nat.min k (n - k)) z).length) = List.replicate (k + Nat.min k (n - k)) z ++ List.replicate (n - (k + Nat.min k (n - k))) f00 := by
        have h1 : (List.replicate k z ++ List.replicate (n - k) f00).drop (k + (List.replicate (Nat.min k (n - k)) z).length) = List.replicate (n - (k + Nat.min k (n - k))) f00 := by
          rw [List.drop_append, List.drop_eq_nil_of_le (by simp), List.nil_append, List.length_replicate, List.length_replicate, List.drop_replicate]
          congr 1
          omega
        rw [h1, List.take_append_of_le_length (by simp), List.take_replicate, Nat.min_self, ← List.replicate_append_replicate]
      clear e2
      have e3 := hid e3
      have hE3 := hid hE3
      clear hE2
      generalize hq : Nat.min k (n - k) = q at *
      go_wp2
      refine m_startS 10 [7] [0, 1, 2, 3, 4, 5, 6] S ?_
      clear S; intro w hQ S hcD
      have hE4 := hE3.out.step hcD
      clear hcD
      (repeat (first | ((with_reducible apply m_P hQ); (case hn => repeat (with_reducible first | exact .zero | apply Nth.succ)); (case hc => kernel_rfl); (case hy => first | fail | (apply y_quo <;> first | rfl | assumption | omega) | (apply y_pure <;> first | rfl | (intro w'; go_simp; with_reducible rfl))); (case' h => simp only [Act.put, List.setIfInBounds_toArray, List.set_cons_zero, List.set_cons_succ])) | ((with_reducible apply m_R hQ); (case hn => repeat (with_reducible first | exact .zero | apply Nth.succ)); (case hc => kernel_rfl); (case hy => first | exact y_loadA S | exact y_load S | fail); (case' h => simp only [Act.put, List.setIfInBounds_toArray, List.set_cons_zero, List.set_cons_succ]))))
      refine m_G 7 [] (by kernel_rfl) (by repeat (with_reducible first | exact .zero | apply Nth.succ)) ?_
      go_wp2_with ((with_reducible refine gd 45 ?_); refine s_copy (ad := ⟨b, k * 2, none⟩) (dl := n - k) (dc := n - k) (o := k) (ys := List.replicate q z) S rfl .here (congrArg (fun A => Value.slice A (n - k) (n - k)) (if_neg (show ¬ n = k by omega))) At.at_ rfl hE4 (by rw [List.length_replicate]; exact hq.symm) (by simp; omega) ?_; clear S; intro w1 S; rw [e3.out, List.length_replicate] at *)
      refine ⟨.inl rfl, ?_⟩; simp only [Act.put, List.setIfInBounds_toArray, List.set_cons_zero, List.set_cons_succ]
      (refine m_G 8 [] (by kernel_rfl) (by repeat (with_reducible first | exact .zero | apply Nth.succ)) ?_; go_wp2; refine ⟨.inr (Chg.refl _ _), ?_⟩; simp only [Act.put, List.setIfInBounds_toArray, List.set_cons_zero, List.set_cons_succ])
      (refine m_G 9 [] (by kernel_rfl) (by repeat (with_reducible first | exact .zero | apply Nth.succ)) ?_; go_wp2; refine ⟨.inr (Chg.refl _ _), ?_⟩; simp only [Act.put, List.setIfInBounds_toArray, List.set_cons_zero, List.set_cons_succ])
      refine m_end (by kernel_rfl) ?_
      go_wp2
      go_roundw
      case rel => exact ⟨k + q, by omega, by omega, by go_num, S⟩
      case measure => simp [intOf]; omega
    · obtain rfl : k = n := by omega
      go_wp2
      refine s_ret1 S (h := ?_)
      exact ⟨_, _, rfl, by simpa using S⟩

end Go.Proofs.Ytcfialfgkkjlfaa
