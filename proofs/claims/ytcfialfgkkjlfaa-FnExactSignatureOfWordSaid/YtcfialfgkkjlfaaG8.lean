/- Words within words: plain laws; slices of texts. -/
import Derived.Test.YtcfialfgkkjlfaaG7
set_option linter.unusedSimpArgs false
set_option linter.unusedVariables false
namespace Go.Sx
open Go.RowKit
section
variable {P : Program} {ops : Array Oper} {rest : List Oper} {a : Act} {Q : Exit → Act → World → Prop}
variable {dd t ty : Nat} {pos : String} {aft : Array Edge} {gg : Option (Nat × Bool)} {x ix : Operand} {s : ByteArray} {k : IntKind} {i : Int}
theorem run_strH (ht : P.underlying t = some .string) (f : Operand → Value) (hs : f x = .string s) (hix : f ix = .int k i) (h0 : 0 ≤ i) (h1 : i ≤ s.size) (w : World) : (execOp f ⟨some dd, .slice t x none (some ix) none, ty, pos, aft, gg⟩).run P w = .ok (.value (.string (s.extract 0 i.toNat))) w := by
  simp only [execOp, hs, hix, Option.map, Instr.sliceAt]
  simp [Instr.slice, Instr.sliceBounds, Instr.sliceBound, asIntOf, run_underlying ht, h0, h1, Sem.run_bind]
theorem run_strL (ht : P.underlying t = some .string) (f : Operand → Value) (hs : f x = .string s) (hix : f ix = .int k i) (h0 : 0 ≤ i) (h1 : i ≤ s.size) (w : World) : (execOp f ⟨some dd, .slice t x (some ix) none none, ty, pos, aft, gg⟩).run P w = .ok (.value (.string (s.extract i.toNat s.size))) w := by
  simp only [execOp, hs, hix, Option.map, Instr.sliceAt]
  simp [Instr.slice, Instr.sliceBounds, Instr.sliceBound, asIntOf, run_underlying ht, h0, h1, Sem.run_bind]
theorem y_strH {V : World → Prop} (ht : P.underlying t = some .string) (h1 : i ≤ s.size) (h0 : 0 ≤ i) (hs : a.eval x = .string s := by with_unfolding_all rfl) (hix : a.eval ix = .int k i := by with_unfolding_all rfl)
    (hg : Region.wanted ⟨some dd, .slice t x none (some ix) none, ty, pos, aft, gg⟩ (yielded ops a.tmps) = true := by with_unfolding_all rfl) : YieldsIf P ops V ⟨some dd, .slice t x none (some ix) none, ty, pos, aft, gg⟩ (.string (s.extract 0 i.toNat)) a :=
  y_pure (fun w' => run_strH ht _ hs hix h0 h1 w') hg
theorem y_strL {V : World → Prop} (ht : P.underlying t = some .string) (h1 : i ≤ s.size) (h0 : 0 ≤ i) (hs : a.eval x = .string s := by with_unfolding_all rfl) (hix : a.eval ix = .int k i := by with_unfolding_all rfl)
    (hg : Region.wanted ⟨some dd, .slice t x (some ix) none none, ty, pos, aft, gg⟩ (yielded ops a.tmps) = true := by with_unfolding_all rfl) : YieldsIf P ops V ⟨some dd, .slice t x (some ix) none none, ty, pos, aft, gg⟩ (.string (s.extract i.toNat s.size)) a :=
  y_pure (fun w' => run_strL ht _ hs hix h0 h1 w') hg
theorem s_strH (ht : P.underlying t = some .string) (h1 : i ≤ s.size) (h0 : 0 ≤ i) (hs : a.eval x = .string s) (hix : a.eval ix = .int k i) {w : World} (h : wpList P ops Q rest (a.put (some dd) (.string (s.extract 0 i.toNat))) w)
    (hg : Region.wanted ⟨some dd, .slice t x none (some ix) none, ty, pos, aft, gg⟩ (yielded ops a.tmps) = true := by with_unfolding_all rfl) : wpList P ops Q (⟨some dd, .slice t x none (some ix) none, ty, pos, aft, gg⟩ :: rest) a w :=
  s_val hg (run_strH ht _ hs hix h0 h1 w) h
theorem s_strL (ht : P.underlying t = some .string) (h1 : i ≤ s.size) (h0 : 0 ≤ i) (hs : a.eval x = .string s) (hix : a.eval ix = .int k i) {w : World} (h : wpList P ops Q rest (a.put (some dd) (.string (s.extract i.toNat s.size))) w)
    (hg : Region.wanted ⟨some dd, .slice t x (some ix) none none, ty, pos, aft, gg⟩ (yielded ops a.tmps) = true := by with_unfolding_all rfl) : wpList P ops Q (⟨some dd, .slice t x (some ix) none none, ty, pos, aft, gg⟩ :: rest) a w :=
  s_val hg (run_strL ht _ hs hix h0 h1 w) h
theorem y_strHn {V : World → Prop} {j : Nat} (ht : P.underlying t = some .string) (h1 : j ≤ s.size) (hs : a.eval x = .string s := by with_unfolding_all rfl) (hix : a.eval ix = .int k j := by with_unfolding_all rfl)
    (hg : Region.wanted ⟨some dd, .slice t x none (some ix) none, ty, pos, aft, gg⟩ (yielded ops a.tmps) = true := by with_unfolding_all rfl) : YieldsIf P ops V ⟨some dd, .slice t x none (some ix) none, ty, pos, aft, gg⟩ (.string (s.extract 0 j)) a :=
  y_strH (i := (j : Int)) ht (by omega) (by omega) hs hix hg
theorem y_strLn {V : World → Prop} {j : Nat} (ht : P.underlying t = some .string) (h1 : j ≤ s.size) (hs : a.eval x = .string s := by with_unfolding_all rfl) (hix : a.eval ix = .int k j := by with_unfolding_all rfl)
    (hg : Region.wanted ⟨some dd, .slice t x (some ix) none none, ty, pos, aft, gg⟩ (yielded ops a.tmps) = true := by with_unfolding_all rfl) : YieldsIf P ops V ⟨some dd, .slice t x (some ix) none none, ty, pos, aft, gg⟩ (.string (s.extract j s.size)) a :=
  y_strL (i := (j : Int)) ht (by omega) (by omega) hs hix hg
/-- An operation whose guard does not hold. -/
theorem s_skip {o : Oper} {w : World} (h : wpList P ops Q rest (a.put o.dst undef) w) (hg : Region.wanted o (yielded ops a.tmps) = false := by with_unfolding_all rfl) : wpList P ops Q (o :: rest) a w := by
  unfold wpList
  rw [if_neg (by rw [hg]; simp)]
  exact h
end
end Go.Sx
namespace Go.Sg
open Go.Sx
theorem byt_extract (s : ByteArray) (i j k : Nat) (h : k < (s.extract i j).size) : byt (s.extract i j) k = byt s (i + k) := by
  have h2 : i + k < s.size := by rw [ByteArray.size_extract] at h; omega
  rw [byt_at h, byt_at h2, ByteArray.getElem_extract]
theorem lets_extract {d : Int} {s : ByteArray} (h : lets d s = true) (i j : Nat) : lets d (s.extract i j) = true := by
  refine lets_yes fun k hk => ?_
  rw [byt_extract s i j k hk]
  exact lets_b h (by rw [ByteArray.size_extract] at hk; omega)
theorem size_extract_le (s : ByteArray) (i j : Nat) : (s.extract i j).size ≤ s.size := by rw [ByteArray.size_extract]; omega
theorem aheadN_mono {d a b : Nat} (h : a ≤ b) : aheadN d a ≤ aheadN d b := by
  induction h with
  | refl => exact Nat.le_refl _
  | step _ ih => exact Nat.le_trans ih (by simp [aheadN])
theorem allW_len (d n : Nat) : (allW d n).length = aheadN d (n + 1) := by
  unfold allW
  have key : ∀ m, ((List.range m).flatMap (wordsL d)).length = aheadN d m := by
    intro m
    induction m with
    | zero => rfl
    | succ m ih => rw [List.range_succ, List.flatMap_append, List.length_append, ih]; simp [aheadN, wordsL_len]
  exact key _
theorem num_lt {d n : Nat} {s : ByteArray} (h : lets d s = true) (hs : s.size ≤ n) : num d s < (allW d n).length := by
  rw [allW_len]
  have h1 := valN_lt h s.size (Nat.le_refl _)
  have h2 : aheadN d (s.size + 1) ≤ aheadN d (n + 1) := aheadN_mono (by omega)
  unfold num
  simp only [aheadN] at h2 ⊢
  omega
theorem lets_letB {d i : Nat} (hd : d ≤ 100) (h : i < d) : lets d (letB i) = true := by
  refine lets_yes fun k hk => ?_
  have h1 : (letB (i : Int)).size = 1 := rfl
  obtain rfl : k = 0 := by omega
  have h2 : byt (letB i) 0 = 48 + i := by
    unfold byt letB
    rw [dif_pos (show 0 < (⟨#[UInt8.ofNat (48 + (i : Int)).toNat]⟩ : ByteArray).size from Nat.one_pos)]
    show ((UInt8.ofNat (48 + (i : Int)).toNat).toNat : Int) = _
    rw [UInt8.toNat_ofNat_of_lt' (by simp [UInt8.size]; omega)]
    omega
  omega
theorem byt_append_left {s u : ByteArray} {k : Nat} (h : k < s.size) : byt (s ++ u) k = byt s k := by
  rw [byt_at (by rw [ByteArray.size_append]; omega), byt_at h, ByteArray.getElem_append_left h]
theorem byt_append_right {s u : ByteArray} {k : Nat} (h : k < u.size) : byt (s ++ u) (s.size + k) = byt u k := by
  rw [byt_at (by rw [ByteArray.size_append]; omega), byt_at h, ByteArray.getElem_append_right (by omega)]
  simp
theorem lets_append {d : Int} {s u : ByteArray} (h1 : lets d s = true) (h2 : lets d u = true) : lets d (s ++ u) = true := by
  refine lets_yes fun k hk => ?_
  by_cases h : k < s.size
  · rw [byt_append_left h]; exact lets_b h1 h
  · rw [ByteArray.size_append] at hk
    obtain ⟨j, rfl⟩ : ∃ j, k = s.size + j := ⟨k - s.size, by omega⟩
    rw [byt_append_right (by omega)]
    exact lets_b h2 (by omega)
theorem wordsL_lets {d : Nat} (hd : d ≤ 100) : ∀ {n : Nat} {w : ByteArray}, w ∈ wordsL d n → lets d w = true
  | 0, w, h => by rw [List.mem_singleton.1 h]; rfl
  | n + 1, w, h => by
    obtain ⟨u, hu, h⟩ := List.mem_flatMap.1 h
    obtain ⟨i, hi, rfl⟩ := List.mem_map.1 h
    exact lets_append (wordsL_lets hd hu) (lets_letB hd (List.mem_range.1 hi))
theorem allW_mem {d n : Nat} (hd : d ≤ 100) {w : ByteArray} (h : w ∈ allW d n) : lets d w = true ∧ w.size ≤ n := by
  obtain ⟨k, hk, h⟩ := List.mem_flatMap.1 h
  have := wordsL_size h
  have := List.mem_range.1 hk
  exact ⟨wordsL_lets hd h, by omega⟩
end Go.Sg
