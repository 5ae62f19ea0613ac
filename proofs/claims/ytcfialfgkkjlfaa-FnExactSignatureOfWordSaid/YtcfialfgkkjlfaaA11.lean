/- Words of our own, eleventh part: a literal as an owned slice; append of a whole slice of plain data. -/
import Derived.Test.YtcfialfgkkjlfaaA10
set_option linter.unusedSimpArgs false
set_option linter.unusedVariables false
namespace Go.Sx
open Go.RowKit
section
variable {P : Program} {ops : Array Oper} {rest : List Oper} {a : Act} {Q : Exit → Act → World → Prop} {M : List Nat} {w0 w : World} {H Hk : List Res} {α : Type} {e m : Nat} {enc : α → List Value} {hlen : ∀ x, (enc x).length = m} {hone : ∀ x, ∀ u ∈ enc x, u.oneCell' = true}
variable {dd t ty : Nat} {pos : String} {aft : Array Edge} {gg : Option (Nat × Bool)} {x y : Operand} {z : Value} {n bytes : Nat} {v : Value} {xs ys : List α} {bs : List Nat} {cs : List Value} {b c0 : Nat} {A : Option Addr}
/-- A literal of plain data is an owned slice. -/
theorem St.litOwn (S : St M w0 w (cel b cs e :: H)) (hlen : ∀ x, (enc x).length = m) (hone : ∀ x, ∀ u ∈ enc x, u.oneCell' = true) (xs : List α) (hcs : cs = (xs.map enc).flatten) (hn : xs.length ≤ maxLen) :
    St M w0 w (own e (flat m enc hlen hone) (.slice (some ⟨b, 0, none⟩) xs.length xs.length) xs [b] :: H) := by
  refine S.re (by simp [dat, cel]) ?_
  intro r hr
  rcases List.mem_cons.1 hr with rfl | hr
  · have hb : w.heap[b]? = some (.cells cs.toArray e (0, 0)) := S.all (cel b cs e) (by simp)
    subst hcs
    have hl := map_flat_len (enc := enc) xs hlen
    exact own_flat.2 ⟨rfl, hl, .inr ⟨b, xs.length, _, rfl, Nat.zero_le _, hb, Nat.le_refl _, hn, by simpa using hl, by rw [List.take_of_length_le]; simpa using Nat.le_of_eq hl⟩⟩
  · exact S.all r (by simp [hr])
theorem All3.flatF {w : World} : ∀ {bss : List (List Nat)} {xs : List α} {inner : List (List Value)}, All3 ((flat m enc hlen hone).F w) bss xs inner → inner = xs.map enc
  | [], [], [], _ => rfl
  | b :: bss, x :: xs, c :: inner, h => by
    obtain ⟨⟨rfl, _⟩, h2⟩ := h
    rw [h2.flatF]; rfl
  | [], [], _ :: _, h => h.elim
  | [], _ :: _, _, h => h.elim
  | _ :: _, [], _, h => h.elim
  | _ :: _, _ :: _, [], h => h.elim
theorem rd_flat (h : Rd (sl e (flat m enc hlen hone)) w ys [.slice A n c0]) (h0 : 0 < ys.length) : ∃ ad, A = some ad ∧ El w ad (ys.map enc).flatten := by
  obtain ⟨bs, A', c, bss, inner, hv, h1, h2, h3, h4, h5, h6⟩ := h
  injection hv with hv _
  injection hv with hv _ _
  subst hv
  obtain ⟨ad, rfl, h7, h8⟩ := h6 h0
  refine ⟨ad, rfl, ⟨?_⟩⟩
  have : inner = ys.map enc := h3.flatF
  rw [← this]
  exact h8
theorem appR_core {v : Value} (ht : SlT P t e) (hi : TI P e z n bytes) (hn : m = n) (hm0 : 0 < m) (hb0 : 0 < bytes) (S : St (feet [own e (flat m enc hlen hone) v xs bs]) w w [own e (flat m enc hlen hone) v xs bs])
    (hR : Rd (sl e (flat m enc hlen hone)) w ys [.slice A ys.length c0]) (hl : (xs.length + ys.length) * bytes ≤ 140737488355328) :
    ∃ A' c' w' bs', (Builtin.append_ #[t, t] ty #[v, .slice A ys.length c0]).run P w = .ok (.slice A' (xs.length + ys.length) c') w' ∧ St (feet [own e (flat m enc hlen hone) v xs bs]) w w' [own e (flat m enc hlen hone) (.slice A' (xs.length + ys.length) c') (xs ++ ys) bs'] := by
  subst hn
  obtain ⟨i, hi1, hi2, hi3, hi4⟩ := hi.get
  obtain ⟨hbs, HO⟩ := own_flat.1 (S.all (own e (flat m enc hlen hone) v xs bs) (by simp))
  have hmax : xs.length + ys.length ≤ maxLen := by simp only [maxLen]; have := Nat.le_trans (Nat.le_mul_of_pos_right (xs.length + ys.length) hb0) hl; omega
  rcases Nat.eq_zero_or_pos ys.length with h0 | h0
  · obtain rfl : ys = [] := List.eq_nil_of_length_eq_zero h0
    obtain ⟨A', c', rfl⟩ := ownB_slice HO
    have hz0 : ∀ ad : Addr, (loadCells ad 0).run P w = .ok #[] w := fun ad => run_loadCells_list (P := P) w ad [] (by simp)
    refine ⟨A', c', w, bs, ?_, by simpa using S⟩
    rcases HO.2 with ⟨hv, hn⟩ | ⟨g, cap, cur, hv, _, _, hnc, _⟩
    · injection hv with h1 h2 h3
      subst h1 h3
      cases A <;> simp [Builtin.append_, run_underlying ht.eq, sizeOf, typeInfo, hi1, Builtin.lenOf, Builtin.firstCells, hn, hz0]
    · injection hv with h1 h2 h3
      subst h1 h3
      cases A <;> simp [Builtin.append_, run_underlying ht.eq, sizeOf, typeInfo, hi1, Builtin.lenOf, Builtin.firstCells, hnc, storeCells, hz0]
  · obtain ⟨ad, rfl, hE⟩ := rd_flat hR h0
    have h1c : ∀ u ∈ (ys.map enc).flatten, u.oneCell' = true := fun u hu => by
      obtain ⟨l, hl, hu⟩ := List.mem_flatten.1 hu
      obtain ⟨x, _, rfl⟩ := List.mem_map.1 hl
      exact hone x u hu
    obtain ⟨v1, w1, hrun, hown, hg, _, hat⟩ := run_append_own_at (P := P) w 0 t ty e i z m bytes ht.eq hi1 hi2 hi3 hi4 hi.sz hm0 v xs.length _ HO ad ys.length c0 _ (map_flat_len ys hlen) hE.at_ h1c hmax hl (Nat.zero_le _)
    obtain ⟨A', c', rfl⟩ := ownB_slice hown
    have hlt : ∀ k ∈ bs, k < w.heap.size := fun k hk => S.hi k (by simpa [dat] using hk)
    have hnb : ∀ k ∈ ownB (.slice A' (xs.length + ys.length) c'), k ∈ ownB v ∨ k = w.heap.size := fun k hk => by
      have hk' : (Value.slice A' (xs.length + ys.length) c').ownBlock = some k := by simpa [ownB] using hk
      rcases hat with hat | hat
      · exact .inl (by rw [hat] at hk'; simp [ownB, hk'])
      · exact .inr (by rw [hat] at hk'; simpa using hk'.symm)
    refine ⟨A', c', w1, ownB (.slice A' (xs.length + ys.length) c'), hrun, ⟨⟨hg.os, hg.tape, hg.output, hg.size, fun k hk hM => hg.block k hk (fun e1 => hM ?_)⟩, ?_, ?_, ?_, ?_⟩⟩
    · simp only [feet_cons, feet_nil, dat, List.append_nil, hbs, ownB, ← e1]
      simp
    · intro r hr'
      rw [List.mem_singleton.1 hr']
      refine own_flat.2 ⟨rfl, ?_⟩
      rw [List.map_append, List.flatten_append, List.length_append]
      exact hown
    · simpa [dat] using nodup_own
    · intro k hk
      simp only [feet_cons, feet_nil, dat, List.append_nil] at hk
      rcases hnb k hk with hk | hk
      · left; simp [dat, hbs, hk]
      · right; omega
    · intro k hk
      simp only [feet_cons, feet_nil, dat, List.append_nil] at hk
      exact own_lt' hown k hk
theorem St.nilOwn2 (S : St M w0 w H) {e : Nat} {d : Dat α} : St M w0 w (own e d (.slice none 0 0) [] [] :: H) := S.flatDat (d := sl e d) (x := []) slO_nil'
/-- append(v, ys...), plain data. -/
theorem s_appR [ht : SlT P t e] [hi : TI P e z n bytes] (S : St M w0 w H) (hn : m = n) (hm0 : 0 < m) (hb0 : 0 < bytes)
    (hs : a.eval x = v) (hy : a.eval y = .slice A ys.length c0) (hR : Rd (sl e (flat m enc hlen hone)) w ys [.slice A ys.length c0]) (hsp : Split H [own e (flat m enc hlen hone) v xs bs] Hk) (hl : (xs.length + ys.length) * bytes ≤ 140737488355328)
    (h : ∀ A' c' bs' w', St M w0 w' (own e (flat m enc hlen hone) (.slice A' (xs.length + ys.length) c') (xs ++ ys) bs' :: Hk) → wpList P ops Q rest (a.put (some dd) (.slice A' (xs.length + ys.length) c')) w') (hg : Region.wanted ⟨some dd, .call { callee := .builtin .append, args := #[x, y], argTypes := #[t, t] }, ty, pos, aft, gg⟩ (yielded ops a.tmps) = true := by with_unfolding_all rfl) : wpList P ops Q (⟨some dd, .call { callee := .builtin .append, args := #[x, y], argTypes := #[t, t] }, ty, pos, aft, gg⟩ :: rest) a w := by
  obtain ⟨A', c', w', bs', hrun, T⟩ := appR_core (t := t) (ty := ty) ht hi hn hm0 hb0 (S.piece hsp) hR hl
  refine s_val hg ?_ (h A' c' bs' w' (by simpa using S.call hsp T))
  show (execOp a.eval _).run P w = _
  rw [BigFrame.execOp_builtin, BigFrame.builtin_append]
  simp [hs, hy, Sem.run_bind, hrun]
end
end Go.Sx
