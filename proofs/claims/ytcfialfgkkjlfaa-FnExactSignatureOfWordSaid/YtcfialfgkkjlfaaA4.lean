/- Words of our own, fourth part: the rules themselves, as the walk takes them. -/
import Derived.Test.YtcfialfgkkjlfaaA3
import Derived.Laws.MakeOwn
set_option linter.unusedSimpArgs false
set_option linter.unusedVariables false
namespace Go.Sx
open Go.RowKit

/-- The run of an operation that yields a value, by what it does. -/
theorem s_val {P : Program} {ops : Array Oper} {rest : List Oper} {a : Act} {Q : Exit → Act → World → Prop} {w w' : World} {o : Oper} {v : Value} (hg : Region.wanted o (yielded ops a.tmps) = true)
    (hrun : (execOp a.eval o).run P w = .ok (.value v) w') (h : wpList P ops Q rest (a.put o.dst v) w') : wpList P ops Q (o :: rest) a w := by
  refine BigFrame.wpList_want hg fun K hK => ?_
  unfold Oper.wp
  rw [hrun, Oper.upon_value]
  exact hK _ _ h

/-- Gates: the operation at hand is the one that fills slot n; is a store through slot n. -/
theorem gd {P : Program} {ops : Array Oper} {rest : List Oper} {a : Act} {Q : Exit → Act → World → Prop} {w : World} {o : Op} {ty : Nat} {pos : String} {aft : Array Edge} {gg : Option (Nat × Bool)} (n : Nat) (h : wpList P ops Q (⟨some n, o, ty, pos, aft, gg⟩ :: rest) a w) :
    wpList P ops Q (⟨some n, o, ty, pos, aft, gg⟩ :: rest) a w := h
theorem gs {P : Program} {ops : Array Oper} {rest : List Oper} {a : Act} {Q : Exit → Act → World → Prop} {w : World} {y : Operand} {t ty : Nat} {pos : String} {aft : Array Edge} {gg : Option (Nat × Bool)} (n : Nat) (h : wpList P ops Q (⟨none, .store t (.tmp n) y, ty, pos, aft, gg⟩ :: rest) a w) :
    wpList P ops Q (⟨none, .store t (.tmp n) y, ty, pos, aft, gg⟩ :: rest) a w := h

section
variable {P : Program} {ops : Array Oper} {rest : List Oper} {a : Act} {Q : Exit → Act → World → Prop} {M : List Nat} {w0 w : World} {H Hk : List Res} {α : Type} {e : Nat} {d : Dat α}
variable {dd t ty : Nat} {pos : String} {aft : Array Edge} {gg : Option (Nat × Bool)} {x y ix p : Operand} {z : Value} {n bytes : Nat} {v : Value} {xs : List α} {bs bx : List Nat} {cs : List Value} {b c0 : Nat} {e' : TypeId}

theorem s_app {x0 : α} [ht : SlT P t e] [hi : TI P e z n bytes] (S : St M w0 w H) (hn : d.sz = n) (hn0 : 0 < n) (hb0 : 0 < bytes)
    (hs : a.eval x = v) (hy : a.eval y = .slice (some ⟨b, 0, none⟩) 1 c0) (hsp : Split H [cel b cs e', own e d v xs bs] Hk) (hO : ∀ w, d.O w [] x0 cs) (hl : (xs.length + 1) * bytes ≤ 140737488355328)
    (h : ∀ A' c' bs' w', St M w0 w' (own e d (.slice A' (xs.length + 1) c') (xs ++ [x0]) bs' :: Hk) → wpList P ops Q rest (a.put (some dd) (.slice A' (xs.length + 1) c')) w') (hg : Region.wanted ⟨some dd, .call { callee := .builtin .append, args := #[x, y], argTypes := #[t, t] }, ty, pos, aft, gg⟩ (yielded ops a.tmps) = true := by with_unfolding_all rfl) : wpList P ops Q (⟨some dd, .call { callee := .builtin .append, args := #[x, y], argTypes := #[t, t] }, ty, pos, aft, gg⟩ :: rest) a w := by
  have hE : El w ⟨b, 0, none⟩ cs := El.of_cel (t := e') S ((hsp.mem (cel b cs e')).2 (.inl (by simp)))
  have S1 : St M w0 w (own e d v xs bs :: Hk) := by
    have S2 := S.call hsp ((S.piece hsp).drop (Split.take (Split.keep .nil)))
    simpa using S2
  have S3 := S1.flatDat (d := d) (x := x0) (cs := cs) (hO w)
  have hsp2 : Split (dat d cs x0 [] :: own e d v xs bs :: Hk) [dat d cs x0 [], own e d v xs bs] Hk := .take (.take (Split.none Hk))
  obtain ⟨A', c', w', bs', hrun, T⟩ := append_core (t := t) (ty := ty) (c0 := c0) ht hi hn hn0 (S3.piece hsp2) hE hl hb0
  refine s_val hg ?_ (h A' c' bs' w' (by simpa using S3.call hsp2 T))
  show (execOp a.eval _).run P w = _
  rw [BigFrame.execOp_builtin, BigFrame.builtin_append]
  simp [hs, hy, Sem.run_bind, hrun]

/-- append of a datum with rows of its own. -/
theorem s_appN {x0 : α} [ht : SlT P t e] [hi : TI P e z n bytes] (S : St M w0 w H) (hn : d.sz = n) (hn0 : 0 < n) (hb0 : 0 < bytes)
    (hs : a.eval x = v) (hy : a.eval y = .slice (some ⟨b, 0, none⟩) 1 c0) (hsp : Split H [cel b cs e', dat d cs x0 bx, own e d v xs bs] Hk) (hl : (xs.length + 1) * bytes ≤ 140737488355328)
    (h : ∀ A' c' bs' w', St M w0 w' (own e d (.slice A' (xs.length + 1) c') (xs ++ [x0]) bs' :: Hk) → wpList P ops Q rest (a.put (some dd) (.slice A' (xs.length + 1) c')) w') (hg : Region.wanted ⟨some dd, .call { callee := .builtin .append, args := #[x, y], argTypes := #[t, t] }, ty, pos, aft, gg⟩ (yielded ops a.tmps) = true := by with_unfolding_all rfl) : wpList P ops Q (⟨some dd, .call { callee := .builtin .append, args := #[x, y], argTypes := #[t, t] }, ty, pos, aft, gg⟩ :: rest) a w := by
  have hE : El w ⟨b, 0, none⟩ cs := El.of_cel (t := e') S ((hsp.mem (cel b cs e')).2 (.inl (by simp)))
  have S3 : St M w0 w (dat d cs x0 bx :: own e d v xs bs :: Hk) := by
    have S2 := S.call hsp ((S.piece hsp).drop (Split.take (Split.keep (Split.keep .nil))))
    simpa using S2
  have hsp2 : Split (dat d cs x0 bx :: own e d v xs bs :: Hk) [dat d cs x0 bx, own e d v xs bs] Hk := .take (.take (Split.none Hk))
  obtain ⟨A', c', w', bs', hrun, T⟩ := append_core (t := t) (ty := ty) (c0 := c0) ht hi hn hn0 (S3.piece hsp2) hE hl hb0
  refine s_val hg ?_ (h A' c' bs' w' (by simpa using S3.call hsp2 T))
  show (execOp a.eval _).run P w = _
  rw [BigFrame.execOp_builtin, BigFrame.builtin_append]
  simp [hs, hy, Sem.run_bind, hrun]

/-- The address of element i of a slice that reads (in the world now). -/
theorem s_idx {x0 : α} {i : Int} {k : IntKind} [ht : SlT P t e] [hi : TI P e z n bytes] (hn : d.sz = n) (hR : Rd (sl e d) w xs [v]) (hs : a.eval x = v) (hix : a.eval ix = .int k i) (h0 : 0 ≤ i) (hx : xs[i.toNat]? = some x0)
    (h : ∀ ad cy, Rd d w x0 cy → El w ad cy → wpList P ops Q rest (a.put (some dd) (.pointer (some ad))) w) (hg : Region.wanted ⟨some dd, .indexAddr t x ix, ty, pos, aft, gg⟩ (yielded ops a.tmps) = true := by with_unfolding_all rfl) : wpList P ops Q (⟨some dd, .indexAddr t x ix, ty, pos, aft, gg⟩ :: rest) a w := by
  subst hn
  obtain ⟨ad, c, ci, rfl, h1, h2⟩ := hR.get _ _ hx
  obtain ⟨i0, hi1, _, hi3, _⟩ := hi.get
  have hlt : i.toNat < xs.length := (List.getElem?_eq_some_iff.1 hx).1
  have hlt' : i < xs.length := by omega
  refine s_val hg ?_ (h _ ci h1 h2)
  simp only [execOp, hs, hix, Instr.indexAt]
  simp [asIntOf, run_underlying ht.eq, sizeOf, typeInfo, hi1, hi3, h0, hlt', Sem.run_bind]

/-- make([]T, m). -/
theorem s_make {m : Nat} {k k' : IntKind} {x0 : α} [ht : SlT P t e] [hi : TI P e z n bytes] (S : St M w0 w H) (hn : d.sz = n) (hn0 : 0 < n) (hx : a.eval x = .int k m) (hy : a.eval y = .int k' m) (hO : ∀ w, d.O w [] x0 z.cells.toList) (hl : m * bytes ≤ 281474976710656) (hm : m ≤ maxLen)
    (h : ∀ b w', St M w0 w' (own e d (.slice (some ⟨b, 0, none⟩) m m) (List.replicate m x0) [b] :: H) → wpList P ops Q rest (a.put (some dd) (.slice (some ⟨b, 0, none⟩) m m)) w') (hg : Region.wanted ⟨some dd, .makeSlice t x y, ty, pos, aft, gg⟩ (yielded ops a.tmps) = true := by with_unfolding_all rfl) : wpList P ops Q (⟨some dd, .makeSlice t x y, ty, pos, aft, gg⟩ :: rest) a w := by
  subst hn
  obtain ⟨i0, hi1, hi2, hi3, hi4⟩ := hi.get
  have hm' : (m : Int) ≤ 9223372036854775807 := by simp only [maxLen] at hm; omega
  have hb' : (i0.bytes : Int) * (m : Int) ≤ 281474976710656 := by
    rw [hi4]
    have h : ((bytes * m : Nat) : Int) ≤ 281474976710656 := by rw [Nat.mul_comm]; omega
    rwa [Int.natCast_mul] at h
  have hr := run_make (P := P) w t e i0 z ht.eq hi1 hi2 k k' m m (by omega) (Int.le_refl _) hb' hm'
  simp only [Int.toNat_natCast] at hr
  have hcl : madeCells z.cells (m * d.sz) = ((List.replicate m z.cells.toList).flatten).toArray := by
    apply Array.ext'
    have hsz : z.cells.size = d.sz := hi.sz
    apply List.ext_getElem?
    intro j
    by_cases hj : j < m * d.sz
    · have hd : j / d.sz < m := by rw [Nat.div_lt_iff_lt_mul hn0]; exact hj
      have hmod : j % d.sz < d.sz := Nat.mod_lt _ hn0
      have hfl := flat_at (css := List.replicate m z.cells.toList) (sz := d.sz) (fun c hc => by rw [(List.mem_replicate.1 hc).2]; simpa using hsz) (j / d.sz) (j % d.sz) z.cells.toList (by simp [hd]) hmod
      rw [Nat.mul_comm, Nat.div_add_mod] at hfl
      rw [hfl]
      simp [madeCells, hj, hsz, hmod, getElem!_pos z.cells (j % d.sz) (by omega)]
    · rw [List.getElem?_eq_none (by simp [madeCells]; omega), List.getElem?_eq_none]
      have := flat_len (css := List.replicate m z.cells.toList) (sz := d.sz) (fun c hc => by rw [(List.mem_replicate.1 hc).2]; simpa using hsz)
      simp only [List.length_replicate] at this
      simp only [this]
      omega
  rw [hi3, hcl] at hr
  refine s_val hg ?_ (h w.heap.size (w.alloc (.cells ((List.replicate m z.cells.toList).flatten).toArray e)) (S.grow (Hn := [_]) ⟨(Chg.refl _ _).alloc _, ?_, by simp [dat], by simp [dat], by simp [dat]⟩))
  · simp only [execOp, hx, hy, Sem.run_bind, hr]
    rfl
  · intro r hr'
    rw [List.mem_singleton.1 hr']
    have hfl : ((List.replicate m z.cells.toList).flatten).length = m * d.sz := by
      have := flat_len (css := List.replicate m z.cells.toList) (sz := d.sz) (fun c hc => by rw [(List.mem_replicate.1 hc).2]; simpa using hi.sz)
      simpa using this
    refine ⟨_, List.replicate m [], List.replicate m z.cells.toList, rfl, ?_, ⟨by simpa using hfl, .inr ⟨w.heap.size, m, _, by simp, Nat.zero_le _, heap_alloc_new _ _, by simp, hm, by simp only [List.size_toArray]; exact hfl, ?_⟩⟩, ?_⟩
    · simp [ownB_some]
    · simp only [List.length_replicate]
      rw [← hfl]
      exact List.take_length
    · have : ∀ k, All3 (d.O (w.alloc (.cells ((List.replicate m z.cells.toList).flatten).toArray e))) (List.replicate k []) (List.replicate k x0) (List.replicate k z.cells.toList) := by
        intro k
        induction k with
        | zero => trivial
        | succ k ih => exact ⟨hO _, ih⟩
      exact this m
end
end Go.Sx
