/- Words of our own, fifth part: stores into elements of rows that the run owns; loads of elements. -/
import Derived.Test.YtcfialfgkkjlfaaA4
set_option linter.unusedSimpArgs false
set_option linter.unusedVariables false
namespace Go.Sx
open Go.RowKit

theorem Spl.len {cs vs cs' : List Value} {off : Nat} (h : Spl cs off vs cs') : cs'.length = cs.length := by
  obtain ⟨h1, h2⟩ := h.eq
  subst h2
  simp
  omega
theorem flat_set : ∀ {css : List (List Value)} {sz : Nat} (_hl : ∀ c ∈ css, c.length = sz) (i off : Nat) (c vs c1 : List Value), css[i]? = some c → Spl c off vs c1 →
    (css.set i c1).flatten = css.flatten.take (i * sz + off) ++ vs ++ css.flatten.drop (i * sz + off + vs.length)
  | [], _, _, i, _, c, _, _, h, _ => by simp at h
  | c0 :: css, sz, hl, 0, off, c, vs, c1, h, hs => by
    simp at h
    subst h
    obtain ⟨h1, h2⟩ := hs.eq
    subst h2
    simp only [List.set_cons_zero, List.flatten_cons, Nat.zero_mul, Nat.zero_add]
    rw [List.take_append_of_le_length (by omega), List.drop_append_of_le_length (by omega)]
    simp [List.append_assoc]
  | c0 :: css, sz, hl, i + 1, off, c, vs, c1, h, hs => by
    have h0 : c0.length = sz := hl _ (by simp)
    simp only [List.set_cons_succ, List.flatten_cons]
    rw [flat_set (fun c hc => hl c (by simp [hc])) i off c vs c1 (by simpa using h) hs]
    have e1 : (i + 1) * sz + off = c0.length + (i * sz + off) := by rw [Nat.add_mul, h0]; omega
    rw [e1, List.take_length_add_append, show c0.length + (i * sz + off) + vs.length = c0.length + (i * sz + off + vs.length) from by omega, List.drop_length_add_append]
    simp [List.append_assoc]

theorem take_spl (l vs : List Value) (A N : Nat) (h : A + vs.length ≤ N) (hN : N ≤ l.length) : (l.take A ++ vs ++ l.drop (A + vs.length)).take N = (l.take N).take A ++ vs ++ (l.take N).drop (A + vs.length) := by
  rw [List.append_assoc, List.take_append, List.take_append, List.take_take, List.take_take, List.drop_take, Nat.min_eq_right (by omega : A ≤ N), Nat.min_eq_left (by omega : A ≤ N), List.append_assoc]
  have e1 : (l.take A).length = A := by simp; omega
  rw [e1, List.take_of_length_le (by omega : vs.length ≤ N - A), show N - A - vs.length = N - (A + vs.length) from by omega]
/-- ad is place k in the row of the slice v. -/
structure At (v : Value) (k : Nat) (ad : Addr) : Prop where
  eq : ∃ g n c, v = .slice (some ⟨g, 0, none⟩) n c ∧ ad = ⟨g, k, none⟩
theorem At.add {v : Value} {k : Nat} {ad : Addr} (h : At v k ad) (j : Nat) : At v (k + j) (ad.add j) := by
  obtain ⟨g, n, c, rfl, rfl⟩ := h.eq
  refine ⟨g, n, c, rfl, ?_⟩
  unfold Addr.add
  split <;> simp_all
theorem El.add {w : World} {ad : Addr} {cs : List Value} (h : El w ad cs) (k : Nat) : El w (ad.add k) (cs.drop k) :=
  ⟨fun j u hj => by rw [add_add]; exact h.at_ _ _ (by simpa using hj)⟩

/-- Element i of an owned slice: where it lies, and its cells. -/
theorem own_get {α : Type} {e : Nat} {d : Dat α} {M : List Nat} {w0 w : World} {H : List Res} {v : Value} {xs : List α} {bs : List Nat} (S : St M w0 w H) (hm : own e d v xs bs ∈ H) (i : Nat) (x : α) (hi : xs[i]? = some x) :
    ∃ g c bx ci, v = .slice (some ⟨g, 0, none⟩) xs.length c ∧ d.O w bx x ci ∧ (∀ k ∈ bx, k ∈ bs) ∧ El w ⟨g, i * d.sz, none⟩ ci := by
  have hO : slO e d w bs xs [v] := S.all _ hm
  obtain ⟨v', bss, inner, hv, hbs, hr, ha⟩ := hO
  injection hv with hv _
  subst hv
  have hlt : i < xs.length := (List.getElem?_eq_some_iff.1 hi).1
  obtain ⟨b, ci, hb, hci, hx⟩ := ha.get i x hi
  rcases hr.2 with ⟨_, h0⟩ | ⟨g, cap, cur, rfl, _, hg, hn, hc, hs, ht⟩
  · omega
  · refine ⟨g, cap, b, ci, rfl, hx, fun k hk => ?_, ⟨fun j u hj => ?_⟩⟩
    · rw [hbs]; exact List.mem_append.2 (.inr (List.mem_flatten.2 ⟨b, List.mem_of_getElem? hb, hk⟩))
    · have hl := ha.O_F.cells
      have hj' : j < d.sz := by rw [← (hl ci (List.mem_of_getElem? hci)).1]; exact (List.getElem?_eq_some_iff.1 hj).1
      have hadd : (⟨g, i * d.sz, none⟩ : Addr).add j = ⟨g, i * d.sz + j, none⟩ := by unfold Addr.add; split <;> simp_all
      have h3 := hr.cells (g := g) rfl (i * d.sz + j) u (by rw [flat_at (fun c hc => (hl c hc).1) i j ci hci hj']; exact hj)
      have hadd2 : (⟨g, 0, none⟩ : Addr).add (i * d.sz + j) = ⟨g, i * d.sz + j, none⟩ := by unfold Addr.add; split <;> simp_all
      rw [hadd2] at h3
      rw [hadd]; exact h3

section
variable {P : Program} {ops : Array Oper} {rest : List Oper} {a : Act} {Q : Exit → Act → World → Prop} {M : List Nat} {w0 w : World} {H H' Hk : List Res} {α : Type} {e : Nat}
variable {dd t ty : Nat} {pos : String} {aft : Array Edge} {gg : Option (Nat × Bool)} {x y ix p : Operand} {z : Value} {n bytes : Nat} {v : Value} {xs : List α} {bs : List Nat} {cs vs : List Value}

/-- The address of element i of an owned slice. -/
theorem s_idxO {d : Dat α} {x0 : α} {i : Int} {k : IntKind} [ht : SlT P t e] [hi : TI P e z n bytes] (S : St M w0 w H) (hn : d.sz = n) (hm : own e d v xs bs ∈ H) (hs : a.eval x = v) (hix : a.eval ix = .int k i) (h0 : 0 ≤ i) (hx : xs[i.toNat]? = some x0)
    (h : ∀ ad bx cy, d.O w bx x0 cy → El w ad cy → At v (i.toNat * n) ad → wpList P ops Q rest (a.put (some dd) (.pointer (some ad))) w) (hg : Region.wanted ⟨some dd, .indexAddr t x ix, ty, pos, aft, gg⟩ (yielded ops a.tmps) = true := by with_unfolding_all rfl) : wpList P ops Q (⟨some dd, .indexAddr t x ix, ty, pos, aft, gg⟩ :: rest) a w := by
  subst hn
  obtain ⟨g, c, bx, ci, rfl, h1, _, h2⟩ := own_get S hm _ _ hx
  obtain ⟨i0, hi1, _, hi3, _⟩ := hi.get
  have hlt : i.toNat < xs.length := (List.getElem?_eq_some_iff.1 hx).1
  have hlt' : i < xs.length := by omega
  refine s_val hg ?_ (h _ bx ci h1 h2 ⟨g, _, _, rfl, rfl⟩)
  have hadd : (⟨g, 0, none⟩ : Addr).add (i.toNat * d.sz) = ⟨g, i.toNat * d.sz, none⟩ := by unfold Addr.add; split <;> simp_all
  simp only [execOp, hs, hix, Instr.indexAt]
  simp [asIntOf, run_underlying ht.eq, sizeOf, typeInfo, hi1, hi3, h0, hlt', Sem.run_bind, hadd]

/-- A store into an element (or into a field of it) of an owned slice of plain data. -/
theorem s_stO {m : Nat} {enc : α → List Value} {hlen : ∀ x, (enc x).length = m} {hone : ∀ x, ∀ u ∈ enc x, u.oneCell' = true} {x0 y0 : α} {i off : Nat} {ad : Addr} [hi : TI P t z n bytes] (S : St M w0 w H)
    (hu : Upd H (own e (flat m enc hlen hone) v xs bs) (own e (flat m enc hlen hone) v (xs.set i y0) bs) H') (hp : a.eval p = .pointer (some ad)) (hA : At v (i * m + off) ad) (hx : xs[i]? = some x0) (hy : (a.eval y).cells = vs.toArray)
    (hs : Spl (enc x0) off vs (enc y0)) (hn : vs.length = n)
    (h : ∀ w', St M w0 w' H' → wpList P ops Q rest a w') (hgg : Region.wanted ⟨none, .store t p y, ty, pos, aft, gg⟩ (yielded ops a.tmps) = true := by with_unfolding_all rfl) : wpList P ops Q (⟨none, .store t p y, ty, pos, aft, gg⟩ :: rest) a w := by
  subst hn
  have hO : slO e (flat m enc hlen hone) w bs xs [v] := S.all _ hu.mem
  obtain ⟨v', bss, inner, hv, hbs, hr, ha⟩ := hO
  injection hv with hv _
  subst hv
  have hlt : i < xs.length := (List.getElem?_eq_some_iff.1 hx).1
  obtain ⟨b, ci, hb, hci, hxe⟩ := ha.get i x0 hx
  obtain ⟨rfl, rfl⟩ := hxe
  obtain ⟨g, n1, c1, rfl, rfl⟩ := hA.eq
  rcases hr.2 with ⟨hno, _⟩ | ⟨g', cap, cur, hg', _, hg, hn, hc, hsz, ht⟩
  · cases hno
  · injection hg' with e1 e2 e3
    injection e1 with e1
    injection e1 with e1
    subst e1 e2 e3
    have hl := ha.O_F.cells
    have hfl := flat_len (css := inner) (sz := m) (fun c hc => (hl c hc).1)
    have hil : inner.length = xs.length := ha.len.2
    obtain ⟨hs1, hs2⟩ := hs.eq
    have hm1 : i * m + m ≤ xs.length * m := by rw [← Nat.succ_mul]; exact Nat.mul_le_mul_right _ hlt
    have hm2 : xs.length * m ≤ c1 * m := Nat.mul_le_mul_right _ hn
    have hcz : cur.size = c1 * m := hsz
    have hoff : off + vs.length ≤ m := by rw [← hlen x0]; exact hs1
    have hfit : i * m + off + 0 + vs.length ≤ cur.size := by rw [hcz]; omega
    have hv1 : ∀ u ∈ vs, u.oneCell' = true := fun u hu => hone y0 u (by rw [hs2]; simp [hu])
    have hst := run_storeCells_at P g (i * m + off) e vs 0 cur w hg hfit hv1
    simp only [Nat.add_zero] at hst
    obtain ⟨i0, hi1, _, hi3, _⟩ := hi.get
    have hz' : (sizeOf t).run P w = .ok vs.length w := by simp [sizeOf, typeInfo, go_sem, hi1, hi3]
    have hrun : (execOp a.eval ⟨none, .store t p y, ty, pos, aft, gg⟩).run P w = .ok .skip (w.setRow g (cur.toList.take (i * m + off) ++ vs ++ cur.toList.drop (i * m + off + vs.length)).toArray) := by
      simp only [execOp, Instr.storeAt, hp, Instr.sureAddr, storeVar, Sem.run_bind, Sem.run_pure, hz', Result.andThen_ok, hy, List.size_toArray, ne_eq, not_true_eq_false, if_false]
      simp only [Result.andThen_ok, hst]
    refine BigFrame.wpList_want hgg fun K hK => ?_
    unfold Oper.wp
    rw [hrun, Oper.upon_skip]
    refine hK _ _ (h _ (S.put hu rfl (r := own e (flat m enc hlen hone) (.slice (some ⟨g, 0, none⟩) xs.length c1) xs bs) ?_ ?_))
    · have hgb : bs = g :: bss.flatten := by rw [hbs]; rfl
      exact ⟨rfl, rfl, rfl, by simp, fun k _ hk => setRow_other w g k _ (fun e1 => hk (by show k ∈ bs; rw [hgb, e1]; simp))⟩
    · refine ⟨_, bss, inner.set i (enc y0), rfl, hbs, ⟨?_, .inr ⟨g, c1, _, by simp, Nat.zero_le _, setRow_heap w g cur _ e _ hg, by simpa using hn, hc, ?_, ?_⟩⟩, ?_⟩
      · have := flat_len (css := inner.set i (enc y0)) (sz := m) (fun c hc => by
          rcases List.mem_or_eq_of_mem_set hc with hc | rfl
          · exact (hl c hc).1
          · exact hlen y0)
        simpa [hil, flat] using this
      · show _ = c1 * m
        rw [← hcz]
        simp only [List.size_toArray, List.length_append, List.length_take, List.length_drop, Array.length_toList]
        omega
      · rw [flat_set (fun c hc => (hl c hc).1) i off _ vs _ hci hs, ← ht]
        show ((cur.toList.take (i * m + off) ++ vs ++ cur.toList.drop (i * m + off + vs.length)).toArray).toList.take ((xs.set i y0).length * m) = List.take (i * m + off) (cur.toList.take (xs.length * m)) ++ vs ++ List.drop (i * m + off + vs.length) (cur.toList.take (xs.length * m))
        have hcl : cur.toList.length = c1 * m := by simp [hcz]
        rw [List.length_set]
        exact take_spl _ _ _ _ (by omega) (by omega)
      · have h4 := ha.set i (b := []) (x := y0) (c := enc y0) ⟨rfl, rfl⟩
        have hbi : bss.set i [] = bss := by
          apply List.ext_getElem?
          intro j
          by_cases hj : j = i
          · subst hj
            have := List.getElem?_eq_some_iff.1 hb
            rw [List.getElem?_set_self this.1, hb]
          · rw [List.getElem?_set_ne (fun h => hj h.symm)]
        rwa [hbi] at h4
/-- The address alone, for a store of a whole element. -/
theorem s_idxA {d : Dat α} {i : Int} {k : IntKind} [ht : SlT P t e] [hi : TI P e z n bytes] (S : St M w0 w H) (hn : d.sz = n) (hm : own e d v xs bs ∈ H) (hs : a.eval x = v) (hix : a.eval ix = .int k i) (h0 : 0 ≤ i) (hl : i < xs.length)
    (h : ∀ ad, At v (i.toNat * n) ad → wpList P ops Q rest (a.put (some dd) (.pointer (some ad))) w) (hg : Region.wanted ⟨some dd, .indexAddr t x ix, ty, pos, aft, gg⟩ (yielded ops a.tmps) = true := by with_unfolding_all rfl) : wpList P ops Q (⟨some dd, .indexAddr t x ix, ty, pos, aft, gg⟩ :: rest) a w :=
  s_idxO S hn hm hs hix h0 (List.getElem?_eq_getElem (show i.toNat < xs.length by omega)) (fun ad _ _ _ _ hA => h ad hA) hg
theorem Spl.whole : ∀ {cs vs : List Value}, vs.length = cs.length → Spl cs 0 vs vs
  | [], [], _ => .done
  | _ :: cs, _ :: vs, h => .here (Spl.whole (by simpa using h))
  | [], _ :: _, h => by simp at h
  | _ :: _, [], h => by simp at h
/-- A store of a whole element. -/
theorem s_stW {m : Nat} {enc : α → List Value} {hlen : ∀ x, (enc x).length = m} {hone : ∀ x, ∀ u ∈ enc x, u.oneCell' = true} {y0 : α} {i : Nat} {ad : Addr} [hi : TI P t z n bytes] (S : St M w0 w H)
    (hu : Upd H (own e (flat m enc hlen hone) v xs bs) (own e (flat m enc hlen hone) v (xs.set i y0) bs) H') (hp : a.eval p = .pointer (some ad)) (hA : At v (i * m) ad) (hl : i < xs.length) (hy : (a.eval y).cells = (enc y0).toArray) (hn : m = n)
    (h : ∀ w', St M w0 w' H' → wpList P ops Q rest a w') (hg : Region.wanted ⟨none, .store t p y, ty, pos, aft, gg⟩ (yielded ops a.tmps) = true := by with_unfolding_all rfl) : wpList P ops Q (⟨none, .store t p y, ty, pos, aft, gg⟩ :: rest) a w :=
  s_stO (off := 0) S hu hp hA (List.getElem?_eq_getElem hl) hy (Spl.whole (by rw [hlen, hlen])) (by rw [hlen, hn]) h hg
end
end Go.Sx
