/- Words of our own, ninth part: slices of slices, copy between rows of plain data. -/
import Derived.Test.YtcfialfgkkjlfaaA8
import Derived.Great.BuildSlice
set_option linter.unusedSimpArgs false
set_option linter.unusedVariables false
namespace Go.Sx
open Go.RowKit

section
variable {α : Type} {m : Nat} {enc : α → List Value} {hlen : ∀ x, (enc x).length = m} {hone : ∀ x, ∀ u ∈ enc x, u.oneCell' = true}
theorem All3.flatO {w : World} : ∀ {bss : List (List Nat)} {xs : List α} {inner : List (List Value)}, All3 ((flat m enc hlen hone).O w) bss xs inner → bss = List.replicate xs.length [] ∧ inner = xs.map enc
  | [], [], [], _ => ⟨rfl, rfl⟩
  | b :: bss, x :: xs, c :: inner, h => by
    obtain ⟨⟨rfl, rfl⟩, h2⟩ := h
    obtain ⟨rfl, rfl⟩ := h2.flatO
    exact ⟨rfl, rfl⟩
  | [], [], _ :: _, h => h.elim
  | [], _ :: _, _, h => h.elim
  | _ :: _, [], _, h => h.elim
  | _ :: _, _ :: _, [], h => h.elim
theorem All3.ofFlat (w : World) : ∀ (xs : List α), All3 ((flat m enc hlen hone).O w) (List.replicate xs.length []) xs (xs.map enc)
  | [] => trivial
  | x :: xs => ⟨⟨rfl, rfl⟩, All3.ofFlat w xs⟩
theorem rep_flat (n : Nat) : (List.replicate n ([] : List Nat)).flatten = [] := by simp
theorem own_flat {e : Nat} {w : World} {bs : List Nat} {xs : List α} {v : Value} : slO e (flat m enc hlen hone) w bs xs [v] ↔ bs = ownB v ∧ w.ownsRow 0 e m v xs.length (xs.map enc).flatten := by
  constructor
  · rintro ⟨v', bss, inner, hv, hbs, hr, ha⟩
    injection hv with hv _
    subst hv
    obtain ⟨rfl, rfl⟩ := ha.flatO
    exact ⟨by rw [hbs, rep_flat, List.append_nil], hr⟩
  · rintro ⟨rfl, hr⟩
    exact ⟨v, _, _, rfl, by rw [rep_flat, List.append_nil], hr, All3.ofFlat w xs⟩
theorem map_flat_len (xs : List α) (hlen : ∀ x, (enc x).length = m) : (xs.map enc).flatten.length = xs.length * m := by
  have := flat_len (css := xs.map enc) (sz := m) (fun c hc => by obtain ⟨x, _, rfl⟩ := List.mem_map.1 hc; exact hlen x)
  simpa using this
theorem El.left {w : World} {ad : Addr} {l1 l2 : List Value} (h : El w ad (l1 ++ l2)) : El w ad l1 := ⟨fun j u hj => h.at_ j u (by rw [List.getElem?_append_left (List.getElem?_eq_some_iff.1 hj).1]; exact hj)⟩
/-- All the cells of a slice that is owned, of plain data. -/
theorem own_els {e : Nat} {M : List Nat} {w0 w : World} {H : List Res} {ad : Addr} {n c : Nat} {xs : List α} {bs : List Nat} (S : St M w0 w H) (hm : own e (flat m enc hlen hone) (.slice (some ad) n c) xs bs ∈ H) : El w ad (xs.map enc).flatten := by
  have hO : slO e (flat m enc hlen hone) w bs xs [.slice (some ad) n c] := S.all _ hm
  obtain ⟨_, hr⟩ := own_flat.1 hO
  rcases hr.2 with ⟨h, _⟩ | ⟨g, cap, cur, hv, _, hg, hn, hc, _⟩
  · cases h
  · injection hv with e1 e2 e3
    injection e1 with e1
    subst e1
    exact ⟨fun j u hj => hr.cells (g := g) (by rw [e2, e3]; rfl) j u hj⟩
theorem El.rows {w : World} {ad : Addr} {xs : List α} (k : Nat) (h : El w ad (xs.map enc).flatten) : El w ad ((xs.take k).map enc).flatten := by
  rw [← List.take_append_drop k xs, List.map_append, List.flatten_append] at h
  exact h.left
end
section
variable {P : Program} {ops : Array Oper} {rest : List Oper} {a : Act} {Q : Exit → Act → World → Prop} {M : List Nat} {w0 w : World} {H H' : List Res} {α : Type} {e : Nat}
variable {dd t ty : Nat} {pos : String} {aft : Array Edge} {gg : Option (Nat × Bool)} {x y ix p : Operand} {z : Value} {n bytes : Nat} {v : Value} {xs ys : List α} {bs : List Nat}
variable {m : Nat} {enc : α → List Value} {hlen : ∀ x, (enc x).length = m} {hone : ∀ x, ∀ u ∈ enc x, u.oneCell' = true}
theorem s_slL {A : Option Addr} {len c : Nat} {i : Int} {k : IntKind} [ht : SlT P t e] [hi : TI P e z n bytes] (hs : a.eval x = .slice A len c) (hix : a.eval ix = .int k i) (h0 : 0 ≤ i) (h1 : i ≤ len) (hc : i.toNat < c)
    (h : wpList P ops Q rest (a.put (some dd) (.slice (A.map (·.add (i.toNat * n))) (len - i.toNat) (c - i.toNat))) w) (hg : Region.wanted ⟨some dd, .slice t x (some ix) none none, ty, pos, aft, gg⟩ (yielded ops a.tmps) = true := by with_unfolding_all rfl) :
    wpList P ops Q (⟨some dd, .slice t x (some ix) none none, ty, pos, aft, gg⟩ :: rest) a w := by
  obtain ⟨i0, hi1, _, hi3, _⟩ := hi.get
  refine s_val hg ?_ h
  have he : P.elem t = e := by simp [Program.elem, ht.eq]
  simp only [execOp, hs, hix, Option.map, Instr.sliceAt]
  have hr := run_slice_l (P := P) w t A len c (by rw [he]; exact ht.eq) k i h0 h1
  rw [he] at hr
  have hz : (sizeOf e).run P w = .ok n w := by simp [sizeOf, typeInfo, go_sem, hi1, hi3]
  rw [hz] at hr
  have hne : ¬ c = i.toNat := by omega
  simp only [Sem.run_bind, Sem.run_pure, run_underlying ht.eq, hr, Result.andThen_ok, sliced, hne, if_false]
  try rfl
theorem s_slH {A : Option Addr} {len c : Nat} {i : Int} {k : IntKind} [ht : SlT P t e] [hi : TI P e z n bytes] (hs : a.eval x = .slice A len c) (hix : a.eval ix = .int k i) (h0 : 0 ≤ i) (h1 : i ≤ c)
    (h : wpList P ops Q rest (a.put (some dd) (.slice A i.toNat c)) w) (hg : Region.wanted ⟨some dd, .slice t x none (some ix) none, ty, pos, aft, gg⟩ (yielded ops a.tmps) = true := by with_unfolding_all rfl) :
    wpList P ops Q (⟨some dd, .slice t x none (some ix) none, ty, pos, aft, gg⟩ :: rest) a w := by
  obtain ⟨i0, hi1, _, hi3, _⟩ := hi.get
  refine s_val hg ?_ h
  have he : P.elem t = e := by simp [Program.elem, ht.eq]
  simp only [execOp, hs, hix, Option.map, Instr.sliceAt]
  have hr := run_slice_h (P := P) w t A len c (by rw [he]; exact ht.eq) k i h0 h1
  rw [he] at hr
  have hz : (sizeOf e).run P w = .ok n w := by simp [sizeOf, typeInfo, go_sem, hi1, hi3]
  rw [hz] at hr
  have hadd : ∀ o : Option Addr, (if c = 0 then o else o.map (·.add (0 * n))) = o := by
    intro o
    cases o <;> simp [Addr.add]
  simp only [Sem.run_bind, Sem.run_pure, run_underlying ht.eq, hr, Result.andThen_ok, sliced, Nat.sub_zero, hadd]
theorem y_slL {V : World → Prop} {A : Option Addr} {len c : Nat} {i : Int} {k : IntKind} [ht : SlT P t e] [hi : TI P e z n bytes] (hs : a.eval x = .slice A len c) (hix : a.eval ix = .int k i) (h0 : 0 ≤ i) (h1 : i ≤ len) (hc : i.toNat < c)
    (hg : Region.wanted ⟨some dd, .slice t x (some ix) none none, ty, pos, aft, gg⟩ (yielded ops a.tmps) = true := by with_unfolding_all rfl) : YieldsIf P ops V ⟨some dd, .slice t x (some ix) none none, ty, pos, aft, gg⟩ (.slice (A.map (·.add (i.toNat * n))) (len - i.toNat) (c - i.toNat)) a := by
  refine y_pure (fun w' => ?_) hg
  obtain ⟨i0, hi1, _, hi3, _⟩ := hi.get
  have he : P.elem t = e := by simp [Program.elem, ht.eq]
  simp only [execOp, hs, hix, Option.map, Instr.sliceAt]
  have hr := run_slice_l (P := P) w' t A len c (by rw [he]; exact ht.eq) k i h0 h1
  rw [he] at hr
  have hz : (sizeOf e).run P w' = .ok n w' := by simp [sizeOf, typeInfo, go_sem, hi1, hi3]
  rw [hz] at hr
  have hne : ¬ c = i.toNat := by omega
  simp only [Sem.run_bind, Sem.run_pure, run_underlying ht.eq, hr, Result.andThen_ok, sliced, hne, if_false]
  try rfl
theorem y_slH {V : World → Prop} {A : Option Addr} {len c : Nat} {i : Int} {k : IntKind} [ht : SlT P t e] [hi : TI P e z n bytes] (hs : a.eval x = .slice A len c) (hix : a.eval ix = .int k i) (h0 : 0 ≤ i) (h1 : i ≤ c)
    (hg : Region.wanted ⟨some dd, .slice t x none (some ix) none, ty, pos, aft, gg⟩ (yielded ops a.tmps) = true := by with_unfolding_all rfl) : YieldsIf P ops V ⟨some dd, .slice t x none (some ix) none, ty, pos, aft, gg⟩ (.slice A i.toNat c) a := by
  refine y_pure (fun w' => ?_) hg
  obtain ⟨i0, hi1, _, hi3, _⟩ := hi.get
  have he : P.elem t = e := by simp [Program.elem, ht.eq]
  simp only [execOp, hs, hix, Option.map, Instr.sliceAt]
  have hr := run_slice_h (P := P) w' t A len c (by rw [he]; exact ht.eq) k i h0 h1
  rw [he] at hr
  have hz : (sizeOf e).run P w' = .ok n w' := by simp [sizeOf, typeInfo, go_sem, hi1, hi3]
  rw [hz] at hr
  have hadd : ∀ o : Option Addr, (if c = 0 then o else o.map (·.add (0 * n))) = o := by
    intro o
    cases o <;> simp [Addr.add]
  simp only [Sem.run_bind, Sem.run_pure, run_underlying ht.eq, hr, Result.andThen_ok, sliced, Nat.sub_zero, hadd]
/-- copy into an owned slice of plain data, from place o on. -/
theorem s_copy {ad ad2 : Addr} {dl dc sl sc o t2 : Nat} [ht : SlT P t e] [hi : TI P e z n bytes] (S : St M w0 w H) (hn : m = n)
    (hu : Upd H (own e (flat m enc hlen hone) v xs bs) (own e (flat m enc hlen hone) v (xs.take o ++ ys ++ xs.drop (o + ys.length)) bs) H')
    (hx : a.eval x = .slice (some ad) dl dc) (hA : At v (o * m) ad) (hy : a.eval y = .slice (some ad2) sl sc) (hE : El w ad2 (ys.map enc).flatten) (hl : ys.length = Nat.min sl dl) (ho : o + ys.length ≤ xs.length)
    (h : ∀ w', St M w0 w' H' → wpList P ops Q rest (a.put (some dd) (.int .i64 ys.length)) w') (hg : Region.wanted ⟨some dd, .call { callee := .builtin .copy, args := #[x, y], argTypes := #[t, t2] }, ty, pos, aft, gg⟩ (yielded ops a.tmps) = true := by with_unfolding_all rfl) :
    wpList P ops Q (⟨some dd, .call { callee := .builtin .copy, args := #[x, y], argTypes := #[t, t2] }, ty, pos, aft, gg⟩ :: rest) a w := by
  subst hn
  obtain ⟨i0, hi1, _, hi3, _⟩ := hi.get
  obtain ⟨hbs, hr⟩ := own_flat.1 (S.all _ hu.mem)
  obtain ⟨g, n1, c1, rfl, rfl⟩ := hA.eq
  rcases hr.2 with ⟨hno, _⟩ | ⟨g', cap, cur, hg', _, hgh, hnc, hc, hsz, htk⟩
  · cases hno
  · injection hg' with e1 e2 e3
    injection e1 with e1
    injection e1 with e1
    subst e1 e2 e3
    have hcl : cur.toList.length = c1 * m := hsz
    have hyl : (ys.map enc).flatten.length = ys.length * m := map_flat_len ys hlen
    have hm2 : xs.length * m ≤ c1 * m := Nat.mul_le_mul_right _ hnc
    have hm3 : (o + ys.length) * m ≤ xs.length * m := Nat.mul_le_mul_right _ ho
    rw [Nat.add_mul] at hm3
    have h1c : ∀ u ∈ (ys.map enc).flatten, u.oneCell' = true := fun u hu => by
      obtain ⟨l, hl, hu⟩ := List.mem_flatten.1 hu
      obtain ⟨x, _, rfl⟩ := List.mem_map.1 hl
      exact hone x u hu
    have hld := run_loadCells_list (P := P) w ad2 (ys.map enc).flatten hE.at_
    have hst := run_storeCells_at P g (o * m) e (ys.map enc).flatten 0 cur w hgh (by rw [Nat.add_zero]; have : cur.size = c1 * m := hsz; omega) h1c
    simp only [Nat.add_zero] at hst
    have hmin : Nat.min sl dl * m = (ys.map enc).flatten.length := by rw [← hl, hyl]
    have hrun : (Builtin.copy_ #[t, t2] ty #[.slice (some ⟨g, o * m, none⟩) dl dc, .slice (some ad2) sl sc]).run P w =
        .ok (goInt ys.length) (w.setRow g (cur.toList.take (o * m) ++ (ys.map enc).flatten ++ cur.toList.drop (o * m + (ys.map enc).flatten.length)).toArray) := by
      clear hyl h1c hE hA
      generalize (ys.map enc).flatten = cs at hld hst hmin ⊢
      simp [Builtin.copy_, run_underlying ht.eq, Builtin.lenOf, Builtin.firstCells, sizeOf, typeInfo, hi1, hi3, hmin, hld, hst, hl]
    refine s_val (w' := w.setRow g (cur.toList.take (o * m) ++ (ys.map enc).flatten ++ cur.toList.drop (o * m + (ys.map enc).flatten.length)).toArray) hg ?_ (h _ (S.put hu rfl (r := own e (flat m enc hlen hone) (.slice (some ⟨g, 0, none⟩) xs.length c1) xs bs) ?_ ?_))
    · show (execOp a.eval _).run P w = _
      rw [BigFrame.execOp_builtin]
      simp [hx, hy, BigFrame.builtin_copy, Sem.run_bind, hrun, goInt]
    · exact ⟨rfl, rfl, rfl, by simp, fun k _ hk => setRow_other w g k _ (fun e1 => hk (by show k ∈ bs; rw [hbs, e1]; simp [ownB_some]))⟩
    · have hll : (xs.take o ++ ys ++ xs.drop (o + ys.length)).length = xs.length := by simp; omega
      refine own_flat.2 ⟨hbs, ?_⟩
      rw [hll]
      refine ⟨?_, .inr ⟨g, c1, _, rfl, Nat.zero_le _, setRow_heap w g cur _ e _ hgh, hnc, hc, ?_, ?_⟩⟩
      · rw [map_flat_len _ hlen, hll]
      · show _ = c1 * m
        rw [← hsz]
        simp only [List.size_toArray, List.length_append, List.length_take, List.length_drop, hcl, hyl]
        have : cur.size = c1 * m := hsz
        omega
      · have e1 : (xs.map enc).flatten.take (o * m) = ((xs.take o).map enc).flatten := by
          have h1 : (xs.map enc).flatten = ((xs.take o).map enc).flatten ++ ((xs.drop o).map enc).flatten := by rw [← List.flatten_append, ← List.map_append, List.take_append_drop]
          have h2 : ((xs.take o).map enc).flatten.length = o * m := by rw [map_flat_len _ hlen, List.length_take, Nat.min_eq_left (by omega)]
          rw [h1, ← h2, List.take_left]
        have e2 : (xs.map enc).flatten.drop (o * m + (ys.map enc).flatten.length) = ((xs.drop (o + ys.length)).map enc).flatten := by
          have h1 : (xs.map enc).flatten = ((xs.take (o + ys.length)).map enc).flatten ++ ((xs.drop (o + ys.length)).map enc).flatten := by rw [← List.flatten_append, ← List.map_append, List.take_append_drop]
          have h2 : ((xs.take (o + ys.length)).map enc).flatten.length = o * m + (ys.map enc).flatten.length := by rw [map_flat_len _ hlen, hyl, ← Nat.add_mul, List.length_take, Nat.min_eq_left ho]
          rw [h1, ← h2, List.drop_left]
        rw [List.map_append, List.map_append, List.flatten_append, List.flatten_append, ← e1, ← e2, ← htk]
        have := take_spl cur.toList (ys.map enc).flatten (o * m) (xs.length * m) (by omega) (by omega)
        simpa using this
end
section
variable {P : Program} {ops : Array Oper} {rest : List Oper} {a : Act} {Q : Exit → Act → World → Prop} {M : List Nat} {w0 w : World} {H H' : List Res} {α : Type} {e : Nat}
variable {dd t ty : Nat} {pos : String} {aft : Array Edge} {gg : Option (Nat × Bool)} {x y ix p : Operand} {z : Value} {n bytes : Nat} {v : Value} {xs ys : List α} {bs : List Nat}
/-- A slice literal, told whole. -/
theorem s_bs {len : Nat} {parts : Array (Nat × Operand)} {cs : List Value} [ht : SlT P t e] [hi : TI P e z n bytes] (S : St M w0 w H)
    (h : ∀ b w', St M w0 w' (cel b cs e :: H) → Chg [] w w' → wpList P ops Q rest (a.put (some dd) (.slice (some ⟨b, 0, none⟩) len len)) w')
    (hf : Instr.fill (fun i => some (i * n, n)) ((Array.range (len * n)).map (z.cells[· % z.cells.size]!)) (parts.map fun (i, x) => (i, a.eval x)).toList = some cs.toArray := by with_unfolding_all rfl)
    (hpos : ¬ len * n = 0 := by decide) (hsm : ¬ len * n > 2 ^ 24 := by decide)
    (hg : Region.wanted ⟨some dd, .buildSlice t len parts, ty, pos, aft, gg⟩ (yielded ops a.tmps) = true := by with_unfolding_all rfl) : wpList P ops Q (⟨some dd, .buildSlice t len parts, ty, pos, aft, gg⟩ :: rest) a w := by
  obtain ⟨i0, hi1, hi2, hi3, _⟩ := hi.get
  subst hi3
  have hr := run_buildSlice (P := P) w t e len (parts.map fun (i, x) => (i, a.eval x)) cs.toArray i0 z ht.eq hi1 hi2 hsm hpos hf
  refine s_val hg (w' := w.alloc (.cells cs.toArray e)) ?_ (h w.heap.size _ (S.grow (St.fresh cs e)) ((Chg.refl _ _).alloc _))
  unfold execOp
  simp only [Sem.run_bind, hr, Result.andThen_ok]
  rfl
/-- An empty slice literal. -/
theorem s_bs0 {d : Dat α} [ht : SlT P t e] [hi : TI P e z n bytes] (S : St M w0 w H)
    (h : ∀ b w', St M w0 w' (own e d (.slice (some ⟨b, 0, none⟩) 0 0) [] [b] :: H) → Chg [] w w' → wpList P ops Q rest (a.put (some dd) (.slice (some ⟨b, 0, none⟩) 0 0)) w')
    (hg : Region.wanted ⟨some dd, .buildSlice t 0 #[], ty, pos, aft, gg⟩ (yielded ops a.tmps) = true := by with_unfolding_all rfl) : wpList P ops Q (⟨some dd, .buildSlice t 0 #[], ty, pos, aft, gg⟩ :: rest) a w := by
  obtain ⟨i0, hi1, hi2, hi3, _⟩ := hi.get
  have hr : (Instr.buildSlice t 0 #[]).run P w = .ok (.slice (some ⟨w.heap.size, 0, none⟩) 0 0) (w.alloc (.cells #[] e (0, 0))) := by
    simp [Instr.buildSlice, run_underlying ht.eq, sizeOf, typeInfo, hi1, newRow, Instr.fill]
    congr 2
    apply Array.ext <;> simp
  refine s_val hg (w' := w.alloc (.cells #[] e (0, 0))) ?_ (h w.heap.size _ (S.grow (Hn := [_]) ⟨(Chg.refl _ _).alloc _, ?_, by simp [dat], by simp [dat], by simp [dat]⟩) ((Chg.refl _ _).alloc _))
  · unfold execOp
    simp only [Sem.run_bind, Array.map_empty, hr, Result.andThen_ok]
    rfl
  · intro r hr'
    rw [List.mem_singleton.1 hr']
    exact ⟨_, [], [], rfl, by simp [ownB_some], ⟨by simp, .inr ⟨w.heap.size, 0, _, by simp, Nat.zero_le _, heap_alloc_new _ _, by simp, by simp [maxLen], by simp, by simp⟩⟩, trivial⟩
/-- A slice of one datum, told whole. -/
theorem Rd.one {d : Dat α} {b : Nat} {cs : List Value} {x0 : α} (S : St M w0 w H) (hm : cel b cs e ∈ H) (hO : ∀ w, d.O w [] x0 cs) : Rd (sl e d) w [x0] [.slice (some ⟨b, 0, none⟩) 1 1] := by
  have hE : El w ⟨b, 0, none⟩ cs := El.of_cel S hm
  have hb : w.heap[b]? = some (.cells cs.toArray e (0, 0)) := S.all _ hm
  have hlt : b < w.heap.size := (Array.getElem?_eq_some_iff.1 hb).1
  have hF := d.F_mono (bs' := [b]) (by simp) (by simpa using hlt) (d.O_F (hO w))
  refine ⟨[b], some ⟨b, 0, none⟩, 1, [[b]], [cs], rfl, Nat.le_refl _, by simp [maxLen], ⟨hF, trivial⟩, by simp, by simpa using hlt, fun _ => ⟨_, rfl, by simp, fun j u hj => hE.at_ j u (by simpa using hj)⟩⟩
end
end Go.Sx
