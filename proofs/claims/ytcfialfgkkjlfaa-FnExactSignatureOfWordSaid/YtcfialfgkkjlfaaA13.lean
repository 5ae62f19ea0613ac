/- Words of our own, thirteenth part: parts of slices that are read. -/
import Derived.Test.YtcfialfgkkjlfaaA12
set_option linter.unusedSimpArgs false
set_option linter.unusedVariables false
namespace Go.Sx
open Go.RowKit
section
variable {α β γ : Type} {R : β → α → γ → Prop}
theorem All3.take : ∀ (k : Nat) {bs : List β} {xs : List α} {cs : List γ}, All3 R bs xs cs → All3 R (bs.take k) (xs.take k) (cs.take k)
  | 0, _, _, _, _ => by simp [All3]
  | k + 1, [], [], [], _ => trivial
  | k + 1, _ :: _, _ :: _, _ :: _, h => ⟨h.1, All3.take k h.2⟩
  | _ + 1, [], [], _ :: _, h => h.elim
  | _ + 1, [], _ :: _, _, h => h.elim
  | _ + 1, _ :: _, [], _, h => h.elim
  | _ + 1, _ :: _, _ :: _, [], h => h.elim
theorem All3.drop : ∀ (k : Nat) {bs : List β} {xs : List α} {cs : List γ}, All3 R bs xs cs → All3 R (bs.drop k) (xs.drop k) (cs.drop k)
  | 0, _, _, _, h => h
  | k + 1, [], [], [], _ => trivial
  | k + 1, _ :: _, _ :: _, _ :: _, h => All3.drop k h.2
  | _ + 1, [], [], _ :: _, h => h.elim
  | _ + 1, [], _ :: _, _, h => h.elim
  | _ + 1, _ :: _, [], _, h => h.elim
  | _ + 1, _ :: _, _ :: _, [], h => h.elim
end
section
variable {α : Type} {e : Nat} {d : Dat α} {w : World} {xs : List α} {A : Option Addr} {n c : Nat}
theorem Rd.takeS (h : Rd (sl e d) w xs [.slice A n c]) (k : Nat) (hk : k ≤ xs.length) : Rd (sl e d) w (xs.take k) [.slice A k c] := by
  obtain ⟨bs, A', c', bss, inner, hv, h1, h2, h3, h4, h5, h6⟩ := h
  injection hv with hv _
  injection hv with e1 e2 e3
  subst e1 e3
  have hl : (xs.take k).length = k := by simp; omega
  refine ⟨bs, A, c, bss.take k, inner.take k, by rw [hl], by rw [hl]; omega, h2, h3.take k, fun b hb => h4 b (List.mem_of_mem_take hb), h5, fun h0 => ?_⟩
  obtain ⟨ad, hA, h7, h8⟩ := h6 (by omega)
  refine ⟨ad, hA, h7, fun j u hj => h8 j u ?_⟩
  have e1 : inner.flatten = (inner.take k).flatten ++ (inner.drop k).flatten := by rw [← List.flatten_append, List.take_append_drop]
  rw [e1, List.getElem?_append_left (List.getElem?_eq_some_iff.1 hj).1]
  exact hj
theorem Rd.dropS (h : Rd (sl e d) w xs [.slice A n c]) (k : Nat) (hk : k ≤ xs.length) : Rd (sl e d) w (xs.drop k) [.slice (if c = k then A else A.map (·.add (k * d.sz))) (xs.length - k) (c - k)] := by
  obtain ⟨bs, A', c', bss, inner, hv, h1, h2, h3, h4, h5, h6⟩ := h
  injection hv with hv _
  injection hv with e1 e2 e3
  subst e1 e3
  have hl : (xs.drop k).length = xs.length - k := by simp
  refine ⟨bs, _, c - k, bss.drop k, inner.drop k, by rw [hl], by rw [hl]; omega, by omega, h3.drop k, fun b hb => h4 b (List.mem_of_mem_drop hb), h5, fun h0 => ?_⟩
  obtain ⟨ad, rfl, h7, h8⟩ := h6 (by omega)
  refine ⟨ad.add (k * d.sz), by rw [if_neg (by omega)]; rfl, by rw [add_block]; exact h7, fun j u hj => ?_⟩
  rw [add_add]
  refine h8 _ u ?_
  have e1 : inner.flatten = (inner.take k).flatten ++ (inner.drop k).flatten := by rw [← List.flatten_append, List.take_append_drop]
  have hcl := h3.cells
  have hlk : (inner.take k).flatten.length = k * d.sz := by
    rw [flat_len (sz := d.sz) (fun c hc => (hcl c (List.mem_of_mem_take hc)).1), List.length_take, h3.len.2, Nat.min_eq_left hk]
  rw [e1, List.getElem?_append_right (by omega), hlk, Nat.add_sub_cancel_left]
  exact hj
end
section
variable {P : Program} {ops : Array Oper} {rest : List Oper} {a : Act} {Q : Exit → Act → World → Prop} {w : World} {e : Nat}
variable {dd t ty : Nat} {pos : String} {aft : Array Edge} {gg : Option (Nat × Bool)} {x ix : Operand} {z : Value} {n bytes : Nat}
theorem run_slLn {A : Option Addr} {len c k : Nat} {ik : IntKind} [ht : SlT P t e] [hi : TI P e z n bytes] (f : Operand → Value) (hs : f x = .slice A len c) (hix : f ix = .int ik k) (h1 : k ≤ len) (w : World) :
    (execOp f ⟨some dd, .slice t x (some ix) none none, ty, pos, aft, gg⟩).run P w = .ok (.value (.slice (if c = k then A else A.map (·.add (k * n))) (len - k) (c - k))) w := by
  obtain ⟨i0, hi1, _, hi3, _⟩ := hi.get
  have he : P.elem t = e := by simp [Program.elem, ht.eq]
  simp only [execOp, hs, hix, Option.map, Instr.sliceAt]
  have hr := run_slice_l (P := P) w t A len c (by rw [he]; exact ht.eq) ik (k : Int) (by omega) (by omega)
  rw [he] at hr
  have hz : (sizeOf e).run P w = .ok n w := by simp [sizeOf, typeInfo, go_sem, hi1, hi3]
  rw [hz] at hr
  simp only [Sem.run_bind, Sem.run_pure, run_underlying ht.eq, hr, Result.andThen_ok, sliced, Int.toNat_natCast]
  try rfl
/-- xs[k:], of any k up to the length. -/
theorem s_slLn {A : Option Addr} {len c k : Nat} {ik : IntKind} [ht : SlT P t e] [hi : TI P e z n bytes] (hs : a.eval x = .slice A len c) (hix : a.eval ix = .int ik k) (h1 : k ≤ len)
    (h : wpList P ops Q rest (a.put (some dd) (.slice (if c = k then A else A.map (·.add (k * n))) (len - k) (c - k))) w) (hg : Region.wanted ⟨some dd, .slice t x (some ix) none none, ty, pos, aft, gg⟩ (yielded ops a.tmps) = true := by with_unfolding_all rfl) :
    wpList P ops Q (⟨some dd, .slice t x (some ix) none none, ty, pos, aft, gg⟩ :: rest) a w :=
  s_val hg (run_slLn _ hs hix h1 w) h
theorem s_slHn {A : Option Addr} {len c k : Nat} {ik : IntKind} [ht : SlT P t e] [hi : TI P e z n bytes] (hs : a.eval x = .slice A len c) (hix : a.eval ix = .int ik k) (h1 : k ≤ c)
    (h : wpList P ops Q rest (a.put (some dd) (.slice A k c)) w) (hg : Region.wanted ⟨some dd, .slice t x none (some ix) none, ty, pos, aft, gg⟩ (yielded ops a.tmps) = true := by with_unfolding_all rfl) :
    wpList P ops Q (⟨some dd, .slice t x none (some ix) none, ty, pos, aft, gg⟩ :: rest) a w :=
  s_slH (i := (k : Int)) hs hix (by omega) (by omega) h hg
/-- Parts of a slice that reads, by their lists. -/
theorem s_slD {α : Type} {d : Dat α} {xs : List α} {A : Option Addr} {m c k : Nat} {ik : IntKind} [ht : SlT P t e] [hi : TI P e z n bytes] (hR : Rd (sl e d) w xs [.slice A m c]) (hn : d.sz = n) (hs : a.eval x = .slice A m c) (hix : a.eval ix = .int ik k) (hk : k ≤ xs.length)
    (h : ∀ A' c', Rd (sl e d) w (xs.drop k) [.slice A' (xs.drop k).length c'] → wpList P ops Q rest (a.put (some dd) (.slice A' (xs.drop k).length c')) w) (hg : Region.wanted ⟨some dd, .slice t x (some ix) none none, ty, pos, aft, gg⟩ (yielded ops a.tmps) = true := by with_unfolding_all rfl) :
    wpList P ops Q (⟨some dd, .slice t x (some ix) none none, ty, pos, aft, gg⟩ :: rest) a w := by
  subst hn
  have hm : m = xs.length := by obtain ⟨A1, c1, hv, _⟩ := hR.slice; injection hv
  subst hm
  have hD := hR.dropS k hk
  refine s_slLn hs hix hk ?_ hg
  rw [← List.length_drop] at hD ⊢
  exact h _ _ hD
theorem s_slT {α : Type} {d : Dat α} {xs : List α} {A : Option Addr} {m c k : Nat} {ik : IntKind} [ht : SlT P t e] [hi : TI P e z n bytes] (hR : Rd (sl e d) w xs [.slice A m c]) (hs : a.eval x = .slice A m c) (hix : a.eval ix = .int ik k) (hk : k ≤ xs.length)
    (h : ∀ A' c', Rd (sl e d) w (xs.take k) [.slice A' (xs.take k).length c'] → wpList P ops Q rest (a.put (some dd) (.slice A' (xs.take k).length c')) w) (hg : Region.wanted ⟨some dd, .slice t x none (some ix) none, ty, pos, aft, gg⟩ (yielded ops a.tmps) = true := by with_unfolding_all rfl) :
    wpList P ops Q (⟨some dd, .slice t x none (some ix) none, ty, pos, aft, gg⟩ :: rest) a w := by
  have hc : xs.length ≤ c ∧ m = xs.length := by obtain ⟨A1, c1, hv, h1, _⟩ := hR.slice; injection hv with _ e2 e3; subst e3; exact ⟨h1, e2⟩
  have hT := hR.takeS k hk
  refine s_slHn hs hix (by omega) ?_ hg
  have e : k = (xs.take k).length := by simp; omega
  have h2 := h A c (by rw [← e]; exact hT)
  rw [← e] at h2
  exact h2
/-- The same with lengths as new names. -/
theorem s_slDn {α : Type} {d : Dat α} {xs : List α} {A : Option Addr} {m c k : Nat} {ik : IntKind} [ht : SlT P t e] [hi : TI P e z n bytes] (hR : Rd (sl e d) w xs [.slice A m c]) (hn : d.sz = n) (hs : a.eval x = .slice A m c) (hix : a.eval ix = .int ik k) (hk : k ≤ xs.length)
    (h : ∀ A' L c', Hid ((xs.drop k).length = L) → Rd (sl e d) w (xs.drop k) [.slice A' L c'] → wpList P ops Q rest (a.put (some dd) (.slice A' L c')) w) (hg : Region.wanted ⟨some dd, .slice t x (some ix) none none, ty, pos, aft, gg⟩ (yielded ops a.tmps) = true := by with_unfolding_all rfl) :
    wpList P ops Q (⟨some dd, .slice t x (some ix) none none, ty, pos, aft, gg⟩ :: rest) a w :=
  s_slD hR hn hs hix hk (fun A' c' hR' => h A' _ c' (hid rfl) hR') hg
theorem s_slTn {α : Type} {d : Dat α} {xs : List α} {A : Option Addr} {m c k : Nat} {ik : IntKind} [ht : SlT P t e] [hi : TI P e z n bytes] (hR : Rd (sl e d) w xs [.slice A m c]) (hs : a.eval x = .slice A m c) (hix : a.eval ix = .int ik k) (hk : k ≤ xs.length)
    (h : ∀ A' L c', Hid ((xs.take k).length = L) → Rd (sl e d) w (xs.take k) [.slice A' L c'] → wpList P ops Q rest (a.put (some dd) (.slice A' L c')) w) (hg : Region.wanted ⟨some dd, .slice t x none (some ix) none, ty, pos, aft, gg⟩ (yielded ops a.tmps) = true := by with_unfolding_all rfl) :
    wpList P ops Q (⟨some dd, .slice t x none (some ix) none, ty, pos, aft, gg⟩ :: rest) a w :=
  s_slT hR hs hix hk (fun A' c' hR' => h A' _ c' (hid rfl) hR') hg
end
section
variable {P : Program} {ops : Array Oper} {rest : List Oper} {a : Act} {Q : Exit → Act → World → Prop} {M : List Nat} {w0 w : World} {H Hk : List Res} {α : Type} {e m : Nat} {enc : α → List Value} {hlen : ∀ x, (enc x).length = m} {hone : ∀ x, ∀ u ∈ enc x, u.oneCell' = true}
variable {dd t ty : Nat} {pos : String} {aft : Array Edge} {gg : Option (Nat × Bool)} {x y : Operand} {z : Value} {n bytes : Nat} {v : Value} {xs ys : List α} {bs : List Nat} {cs : List Value} {b c0 L : Nat} {A : Option Addr} {e' : TypeId}
theorem s_appM [ht : SlT P t e] [hi : TI P e z n bytes] (S : St M w0 w H) (hn : m = n) (hm0 : 0 < m) (hb0 : 0 < bytes)
    (hs : a.eval x = v) (hy : a.eval y = .slice A L c0) (hL : ys.length = L) (hR : Rd (sl e (flat m enc hlen hone)) w ys [.slice A L c0]) (hsp : Split H [own e (flat m enc hlen hone) v xs bs] Hk) (hl : (xs.length + ys.length) * bytes ≤ 140737488355328)
    (h : ∀ A' N c' bs' w', Hid ((xs ++ ys).length = N) → St M w0 w' (own e (flat m enc hlen hone) (.slice A' N c') (xs ++ ys) bs' :: Hk) → wpList P ops Q rest (a.put (some dd) (.slice A' N c')) w') (hg : Region.wanted ⟨some dd, .call { callee := .builtin .append, args := #[x, y], argTypes := #[t, t] }, ty, pos, aft, gg⟩ (yielded ops a.tmps) = true := by with_unfolding_all rfl) : wpList P ops Q (⟨some dd, .call { callee := .builtin .append, args := #[x, y], argTypes := #[t, t] }, ty, pos, aft, gg⟩ :: rest) a w := by
  subst hL
  exact s_appR S hn hm0 hb0 hs hy hR hsp hl (fun A' c' bs' w' S' => h A' _ c' bs' w' (hid (by simp)) S') hg
theorem s_app1 {d : Dat α} {x0 : α} [ht : SlT P t e] [hi : TI P e z n bytes] (S : St M w0 w H) (hn : d.sz = n) (hn0 : 0 < n) (hb0 : 0 < bytes)
    (hs : a.eval x = v) (hy : a.eval y = .slice (some ⟨b, 0, none⟩) 1 c0) (hsp : Split H [cel b cs e', own e d v xs bs] Hk) (hO : ∀ w, d.O w [] x0 cs) (hl : (xs.length + 1) * bytes ≤ 140737488355328)
    (h : ∀ A' N c' bs' w', Hid ((xs ++ [x0]).length = N) → St M w0 w' (own e d (.slice A' N c') (xs ++ [x0]) bs' :: Hk) → wpList P ops Q rest (a.put (some dd) (.slice A' N c')) w') (hg : Region.wanted ⟨some dd, .call { callee := .builtin .append, args := #[x, y], argTypes := #[t, t] }, ty, pos, aft, gg⟩ (yielded ops a.tmps) = true := by with_unfolding_all rfl) : wpList P ops Q (⟨some dd, .call { callee := .builtin .append, args := #[x, y], argTypes := #[t, t] }, ty, pos, aft, gg⟩ :: rest) a w :=
  s_app S hn hn0 hb0 hs hy hsp hO hl (fun A' c' bs' w' S' => h A' _ c' bs' w' (hid (by simp)) S') hg
end
end Go.Sx
