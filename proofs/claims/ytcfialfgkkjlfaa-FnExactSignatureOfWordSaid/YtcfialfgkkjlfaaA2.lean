/- Words of our own, second part: data in memory: kinds of data (numbers, texts, structs of these; slices of a kind, nested), read, or owned with all their rows apart. -/
import Derived.Test.YtcfialfgkkjlfaaA1
import Derived.Maps.AppendAt
import Derived.Laws.OwnMore
set_option linter.unusedSimpArgs false
set_option linter.unusedVariables false
namespace Go.Sx
open Go.RowKit

/-! ### 6. Three lists side by side -/
def All3 {α β γ : Type} (R : β → α → γ → Prop) : List β → List α → List γ → Prop
  | [], [], [] => True
  | b :: bs, x :: xs, c :: cs => R b x c ∧ All3 R bs xs cs
  | _, _, _ => False
section
variable {α β γ : Type} {R R' : β → α → γ → Prop}
theorem All3.len : ∀ {bs : List β} {xs : List α} {cs : List γ}, All3 R bs xs cs → bs.length = xs.length ∧ cs.length = xs.length
  | [], [], [], _ => ⟨rfl, rfl⟩
  | _ :: _, _ :: _, _ :: _, h => by simp [h.2.len]
  | [], [], _ :: _, h => h.elim
  | [], _ :: _, _, h => h.elim
  | _ :: _, [], _, h => h.elim
  | _ :: _, _ :: _, [], h => h.elim
theorem All3.imp : ∀ {bs : List β} {xs : List α} {cs : List γ}, (∀ b x c, b ∈ bs → R b x c → R' b x c) → All3 R bs xs cs → All3 R' bs xs cs
  | [], [], [], _, _ => trivial
  | _ :: _, _ :: _, _ :: _, hi, h => ⟨hi _ _ _ (by simp) h.1, h.2.imp (fun b x c hb => hi b x c (by simp [hb]))⟩
  | [], [], _ :: _, _, h => h.elim
  | [], _ :: _, _, _, h => h.elim
  | _ :: _, [], _, _, h => h.elim
  | _ :: _, _ :: _, [], _, h => h.elim
theorem All3.append : ∀ {bs : List β} {xs : List α} {cs : List γ} {b : β} {x : α} {c : γ}, All3 R bs xs cs → R b x c → All3 R (bs ++ [b]) (xs ++ [x]) (cs ++ [c])
  | [], [], [], _, _, _, _, h => ⟨h, trivial⟩
  | _ :: _, _ :: _, _ :: _, _, _, _, hh, h => ⟨hh.1, hh.2.append h⟩
  | [], [], _ :: _, _, _, _, hh, _ => hh.elim
  | [], _ :: _, _, _, _, _, hh, _ => hh.elim
  | _ :: _, [], _, _, _, _, hh, _ => hh.elim
  | _ :: _, _ :: _, [], _, _, _, hh, _ => hh.elim
theorem All3.get : ∀ {bs : List β} {xs : List α} {cs : List γ}, All3 R bs xs cs → ∀ (i : Nat) (x : α), xs[i]? = some x → ∃ b c, bs[i]? = some b ∧ cs[i]? = some c ∧ R b x c
  | [], [], [], _, _, _, h => by simp at h
  | b :: _, _ :: _, c :: _, hh, 0, x, h => by simp at h; subst h; exact ⟨b, c, by simp, by simp, hh.1⟩
  | _ :: _, _ :: _, _ :: _, hh, i + 1, x, h => by simpa using hh.2.get i x (by simpa using h)
  | [], [], _ :: _, hh, _, _, _ => hh.elim
  | [], _ :: _, _, hh, _, _, _ => hh.elim
  | _ :: _, [], _, hh, _, _, _ => hh.elim
  | _ :: _, _ :: _, [], hh, _, _, _ => hh.elim
theorem All3.set : ∀ {bs : List β} {xs : List α} {cs : List γ} {b : β} {x : α} {c : γ} (i : Nat), All3 R bs xs cs → R b x c → All3 R (bs.set i b) (xs.set i x) (cs.set i c)
  | [], [], [], _, _, _, _, _, _ => trivial
  | _ :: _, _ :: _, _ :: _, _, _, _, 0, hh, h => ⟨h, hh.2⟩
  | _ :: _, _ :: _, _ :: _, _, _, _, i + 1, hh, h => ⟨hh.1, hh.2.set i h⟩
  | [], [], _ :: _, _, _, _, _, hh, _ => hh.elim
  | [], _ :: _, _, _, _, _, _, hh, _ => hh.elim
  | _ :: _, [], _, _, _, _, _, hh, _ => hh.elim
  | _ :: _, _ :: _, [], _, _, _, _, hh, _ => hh.elim
end
/-- Chunks of one length each: where the i-th lies in them all. -/
theorem flat_at : ∀ {css : List (List Value)} {sz : Nat} (hl : ∀ c ∈ css, c.length = sz) (i j : Nat) (c : List Value), css[i]? = some c → j < sz → css.flatten[i * sz + j]? = c[j]?
  | [], _, _, i, j, c, h, _ => by simp at h
  | c0 :: css, sz, hl, 0, j, c, h, hj => by
    simp at h
    subst h
    have : c0.length = sz := hl _ (by simp)
    simp only [List.flatten_cons, Nat.zero_mul, Nat.zero_add]
    rw [List.getElem?_append_left (by omega)]
  | c0 :: css, sz, hl, i + 1, j, c, h, hj => by
    have h0 : c0.length = sz := hl _ (by simp)
    simp only [List.flatten_cons]
    rw [List.getElem?_append_right (by rw [h0, Nat.add_mul]; omega), h0, show (i + 1) * sz + j - sz = i * sz + j from by rw [Nat.add_mul]; omega]
    exact flat_at (fun c hc => hl c (by simp [hc])) i j c (by simpa using h) hj
theorem flat_len : ∀ {css : List (List Value)} {sz : Nat} (_hl : ∀ c ∈ css, c.length = sz), css.flatten.length = css.length * sz
  | [], _, _ => by simp
  | c0 :: css, sz, hl => by
    have h0 : c0.length = sz := hl _ (by simp)
    have h1 := flat_len (css := css) (sz := sz) (fun c hc => hl c (by simp [hc]))
    simp only [List.flatten_cons, List.length_append, List.length_cons, h0, h1, Nat.add_mul]
    omega

/-! ### 7. Kinds of data -/
/-- O: the cells cs are the datum x, with the blocks bs of its own; F: they read as x, out of blocks among bs. -/
structure Dat (α : Type) where
  sz : Nat
  O : World → List Nat → α → List Value → Prop
  F : World → List Nat → α → List Value → Prop
  F_len : ∀ {w bs x cs}, F w bs x cs → cs.length = sz
  F_one : ∀ {w bs x cs}, F w bs x cs → ∀ u ∈ cs, u.oneCell' = true
  O_F : ∀ {w bs x cs}, O w bs x cs → F w bs x cs
  O_keep : ∀ {w w' : World} {bs x cs}, (∀ k ∈ bs, w'.heap[k]? = w.heap[k]?) → O w bs x cs → O w' bs x cs
  F_keep : ∀ {w w' : World} {bs x cs}, (∀ k ∈ bs, w'.heap[k]? = w.heap[k]?) → F w bs x cs → F w' bs x cs
  F_mono : ∀ {w : World} {bs bs' x cs}, (∀ k ∈ bs, k ∈ bs') → (∀ k ∈ bs', k < w.heap.size) → F w bs x cs → F w bs' x cs
  F_lt : ∀ {w : World} {bs x cs}, F w bs x cs → ∀ k ∈ bs, k < w.heap.size

theorem lt_of_keep {w w' : World} {bs : List Nat} (h : ∀ k ∈ bs, w'.heap[k]? = w.heap[k]?) (hl : ∀ k ∈ bs, k < w.heap.size) : ∀ k ∈ bs, k < w'.heap.size := fun k hk => by
  have h1 := h k hk
  rw [Array.getElem?_eq_getElem (hl k hk)] at h1
  exact (Array.getElem?_eq_some_iff.1 h1).1

/-- Data without rows: n cells each. -/
def flat {α : Type} (n : Nat) (enc : α → List Value) (hn : ∀ x, (enc x).length = n) (h1 : ∀ x, ∀ u ∈ enc x, u.oneCell' = true) : Dat α where
  sz := n
  O := fun _ bs x cs => bs = [] ∧ cs = enc x
  F := fun w bs x cs => cs = enc x ∧ ∀ k ∈ bs, k < w.heap.size
  F_len := by rintro _ _ x _ ⟨rfl, _⟩; exact hn x
  F_one := by rintro _ _ x _ ⟨rfl, _⟩; exact h1 x
  O_F := by rintro _ _ _ _ ⟨rfl, rfl⟩; exact ⟨rfl, by simp⟩
  O_keep := fun _ h => h
  F_keep := fun hk h => ⟨h.1, lt_of_keep hk h.2⟩
  F_mono := fun _ hl h => ⟨h.1, hl⟩
  F_lt := fun h => h.2

def ownB (v : Value) : List Nat := v.ownBlock.toList
theorem ownB_some {g n c : Nat} : ownB (.slice (some ⟨g, 0, none⟩) n c) = [g] := rfl
theorem ownB_nil : ownB (.slice none 0 0) = [] := rfl

def slO {α : Type} (e : Nat) (d : Dat α) (w : World) (bs : List Nat) (xs : List α) (cs : List Value) : Prop :=
  ∃ v bss inner, cs = [v] ∧ bs = ownB v ++ bss.flatten ∧ w.ownsRow 0 e d.sz v xs.length inner.flatten ∧ All3 (d.O w) bss xs inner
def slF {α : Type} (e : Nat) (d : Dat α) (w : World) (bs : List Nat) (xs : List α) (cs : List Value) : Prop :=
  ∃ A c bss inner, cs = [.slice A xs.length c] ∧ xs.length ≤ c ∧ c ≤ maxLen ∧ All3 (d.F w) bss xs inner ∧ (∀ b ∈ bss, ∀ k ∈ b, k ∈ bs) ∧ (∀ k ∈ bs, k < w.heap.size) ∧
    (0 < xs.length → ∃ ad, A = some ad ∧ ad.block ∈ bs ∧ ∀ j u, inner.flatten[j]? = some u → w.cell? (ad.add j) = some u)

theorem add_block (a : Addr) (n : Nat) : (a.add n).block = a.block := by unfold Addr.add; split <;> rfl
theorem All3.cells {α : Type} {d : Dat α} {w : World} : ∀ {bss : List (List Nat)} {xs : List α} {inner : List (List Value)}, All3 (d.F w) bss xs inner → ∀ c ∈ inner, c.length = d.sz ∧ ∀ u ∈ c, u.oneCell' = true
  | [], [], [], _ => by simp
  | _ :: _, _ :: _, _ :: _, h => by
    intro c hc
    rcases List.mem_cons.1 hc with rfl | hc
    · exact ⟨d.F_len h.1, d.F_one h.1⟩
    · exact h.2.cells c hc
  | [], [], _ :: _, h => h.elim
  | [], _ :: _, _, h => h.elim
  | _ :: _, [], _, h => h.elim
  | _ :: _, _ :: _, [], h => h.elim
theorem All3.O_F {α : Type} {d : Dat α} {w : World} {bss : List (List Nat)} {xs : List α} {inner : List (List Value)} (h : All3 (d.O w) bss xs inner) : All3 (d.F w) bss xs inner := h.imp (fun _ _ _ _ h => d.O_F h)
theorem All3.lt {α : Type} {d : Dat α} {w : World} : ∀ {bss : List (List Nat)} {xs : List α} {inner : List (List Value)}, All3 (d.F w) bss xs inner → ∀ b ∈ bss, ∀ k ∈ b, k < w.heap.size
  | [], [], [], _ => by simp
  | _ :: _, _ :: _, _ :: _, h => by
    intro b hb
    rcases List.mem_cons.1 hb with rfl | hb
    · exact d.F_lt h.1
    · exact h.2.lt b hb
  | [], [], _ :: _, h => h.elim
  | [], _ :: _, _, h => h.elim
  | _ :: _, [], _, h => h.elim
  | _ :: _, _ :: _, [], h => h.elim
theorem own_lt' {w : World} {base : Nat} {e : TypeId} {size n : Nat} {v : Value} {xs : List Value} (h : w.ownsRow base e size v n xs) : ∀ k ∈ ownB v, k < w.heap.size := fun k hk => by
  have : v.ownBlock = some k := by simpa [ownB] using hk
  exact (h.lt k this).2
theorem own_move' {w w1 : World} {base : Nat} {e : TypeId} {size n : Nat} {v : Value} {xs : List Value} (h : w.ownsRow base e size v n xs) (hm : ∀ k ∈ ownB v, w1.heap[k]? = w.heap[k]?) : w1.ownsRow base e size v n xs := by
  obtain ⟨h1, h2⟩ := h
  refine ⟨h1, ?_⟩
  rcases h2 with h2 | ⟨g, cap, cur, rfl, hg, hh, r⟩
  · exact .inl h2
  · exact .inr ⟨g, cap, cur, rfl, hg, (hm g (by simp [ownB_some])).trans hh, r⟩

def sl {α : Type} (e : Nat) (d : Dat α) : Dat (List α) where
  sz := 1
  O := slO e d
  F := slF e d
  F_len := by rintro _ _ _ _ ⟨A, c, bss, inner, rfl, _⟩; rfl
  F_one := by rintro _ _ _ _ ⟨A, c, bss, inner, rfl, _⟩ u hu; rw [List.mem_singleton.1 hu]; rfl
  O_F := by
    rintro w bs xs cs ⟨v, bss, inner, rfl, rfl, hr, ha⟩
    have hl := ha.O_F.cells
    have hlt : ∀ k ∈ ownB v ++ bss.flatten, k < w.heap.size := fun k hk => by
      rcases List.mem_append.1 hk with hk | hk
      · exact own_lt' hr k hk
      · obtain ⟨b, hb, hk⟩ := List.mem_flatten.1 hk
        exact ha.O_F.lt b hb k hk
    have hsub : ∀ b ∈ bss, ∀ k ∈ b, k ∈ ownB v ++ bss.flatten := fun b hb k hk => List.mem_append.2 (.inr (List.mem_flatten.2 ⟨b, hb, hk⟩))
    rcases hr.2 with ⟨rfl, h0⟩ | ⟨g, cap, cur, rfl, _, hg, hn, hc, _⟩
    · exact ⟨none, 0, bss, inner, by rw [h0], by omega, by simp [maxLen], ha.O_F, hsub, hlt, fun h => by omega⟩
    · exact ⟨_, cap, bss, inner, rfl, hn, hc, ha.O_F, hsub, hlt, fun _ => ⟨_, rfl, by simp [ownB_some], fun j u hj => hr.cells (g := g) rfl j u hj⟩⟩
  O_keep := by
    rintro w w' bs xs cs hk ⟨v, bss, inner, rfl, rfl, hr, ha⟩
    exact ⟨v, bss, inner, rfl, rfl, own_move' hr (fun k h => hk k (by simp [h])), ha.imp (fun b x c hb h => d.O_keep (fun k hkb => hk k (List.mem_append.2 (.inr (List.mem_flatten.2 ⟨b, hb, hkb⟩)))) h)⟩
  F_keep := by
    rintro w w' bs xs cs hk ⟨A, c, bss, inner, rfl, h1, h2, h3, h4, h5, h6⟩
    refine ⟨A, c, bss, inner, rfl, h1, h2, h3.imp (fun b x c hb h => d.F_keep (fun k hkb => hk k (h4 b hb k hkb)) h), h4, lt_of_keep hk h5, fun h => ?_⟩
    obtain ⟨ad, rfl, h7, h8⟩ := h6 h
    exact ⟨ad, rfl, h7, fun j u hj => (World.cell?_of_block (by rw [add_block]; exact hk _ h7)).trans (h8 j u hj)⟩
  F_mono := by
    rintro w bs bs' xs cs hs hl ⟨A, c, bss, inner, rfl, h1, h2, h3, h4, h5, h6⟩
    refine ⟨A, c, bss, inner, rfl, h1, h2, h3, fun b hb k hk => hs k (h4 b hb k hk), hl, fun h => ?_⟩
    obtain ⟨ad, rfl, h7, h8⟩ := h6 h
    exact ⟨ad, rfl, hs _ h7, h8⟩
  F_lt := by
    rintro w bs xs cs ⟨A, c, bss, inner, rfl, h1, h2, h3, h4, h5, h6⟩
    exact h5

/-- Data that read, wherever they lie. -/
def Rd {α : Type} (d : Dat α) (w : World) (x : α) (cs : List Value) : Prop := ∃ bs, d.F w bs x cs
theorem Rd.step {α : Type} {d : Dat α} {w w' : World} {x : α} {cs : List Value} (h : Rd d w x cs) (hc : Chg [] w w') : Rd d w' x cs := by
  obtain ⟨bs, hF⟩ := h
  exact ⟨bs, d.F_keep (fun k hk => hc.block k (d.F_lt hF k hk) (by simp)) hF⟩
theorem St.rd {α : Type} {d : Dat α} {w0 w : World} {H : List Res} {x : α} {cs : List Value} (S : St [] w0 w H) (h : Rd d w0 x cs) : Rd d w x cs := h.step S.chg

/-- The cells cs are the datum x, with blocks of the run's own. -/
def dat {α : Type} (d : Dat α) (cs : List Value) (x : α) (bs : List Nat) : Res where
  foot := bs
  holds := fun w => d.O w bs x cs
  keep := fun hk h => d.O_keep hk h
/-- A slice of the run's own. -/
abbrev own {α : Type} (e : Nat) (d : Dat α) (v : Value) (xs : List α) (bs : List Nat) : Res := dat (sl e d) [v] xs bs
theorem St.own_rd {α : Type} {d : Dat α} {M : List Nat} {w0 w : World} {H : List Res} {x : α} {cs : List Value} {bs : List Nat} (S : St M w0 w H) (hm : dat d cs x bs ∈ H) : Rd d w x cs := ⟨bs, d.O_F (S.all _ hm)⟩

/-! ### 8. Elements -/
/-- From address ad on the cells cs lie. -/
structure El (w : World) (ad : Addr) (cs : List Value) : Prop where
  at_ : ∀ j u, cs[j]? = some u → w.cell? (ad.add j) = some u
theorem add_add (a : Addr) (n m : Nat) : (a.add n).add m = a.add (n + m) := by
  unfold Addr.add
  by_cases hn : n = 0
  · simp [hn]
  · by_cases hm : m = 0
    · simp [hm]
    · simp [hn, hm, Nat.add_assoc]
/-- Element i of a slice that reads. -/
theorem Rd.get {α : Type} {e : Nat} {d : Dat α} {w : World} {xs : List α} {v : Value} (h : Rd (sl e d) w xs [v]) (i : Nat) (x : α) (hi : xs[i]? = some x) :
    ∃ ad c ci, v = .slice (some ad) xs.length c ∧ Rd d w x ci ∧ El w (ad.add (i * d.sz)) ci := by
  obtain ⟨bs, A, c, bss, inner, hv, h1, h2, h3, h4, h5, h6⟩ := h
  injection hv with hv _
  have hlt : i < xs.length := (List.getElem?_eq_some_iff.1 hi).1
  obtain ⟨ad, rfl, h7, h8⟩ := h6 (by omega)
  obtain ⟨b, ci, hb, hci, hF⟩ := h3.get i x hi
  refine ⟨ad, c, ci, hv, ⟨b, hF⟩, ⟨fun j u hj => ?_⟩⟩
  rw [add_add]
  refine h8 _ _ ?_
  have hl := h3.cells
  have hj' : j < d.sz := by rw [← (hl ci (List.mem_of_getElem? hci)).1]; exact (List.getElem?_eq_some_iff.1 hj).1
  rw [flat_at (fun c hc => (hl c hc).1) i j ci hci hj']
  exact hj
theorem Rd.slice {α : Type} {e : Nat} {d : Dat α} {w : World} {xs : List α} {v : Value} (h : Rd (sl e d) w xs [v]) : ∃ A c, v = .slice A xs.length c ∧ xs.length ≤ c ∧ c ≤ maxLen := by
  obtain ⟨bs, A, c, bss, inner, hv, h1, h2, _⟩ := h
  injection hv with hv _
  exact ⟨A, c, hv, h1, h2⟩
end Go.Sx
