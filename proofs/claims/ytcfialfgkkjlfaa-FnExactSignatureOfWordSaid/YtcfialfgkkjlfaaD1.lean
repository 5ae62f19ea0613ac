/- Opening: what an argument reads as, in our words. -/
import Derived.Test.YtcfialfgkkjlfaaB1
import Derived.ChangeArms
import Derived.ChangeSame
import Derived.ChangeOld
import Derived.DataReads
set_option linter.unusedSimpArgs false
set_option linter.unusedVariables false
namespace Go.Sx
open Go.RowKit

/-- Whatever reads as a datum of type t reads as one of ours. -/
def Opens (P : Program) (t : TypeId) {α : Type} (d : Dat α) : Prop :=
  ∀ {H : Type} {enc : TypeId × Value → H} {W : World} {base : Nat} {spare : Nat → Bool} {held : Bool} {fuel : Nat} {cs : List Value} {x : DataW H × List MemPlace}, DataW.trod enc P W base spare held fuel t cs = some x → ∃ y, Rd d W y cs
theorem All3.mk' {α β γ : Type} {R : β → α → γ → Prop} : ∀ (bs : List β) (xs : List α) (cs : List γ), bs.length = xs.length → cs.length = xs.length →
    (∀ (i : Nat) b x c, bs[i]? = some b → xs[i]? = some x → cs[i]? = some c → R b x c) → All3 R bs xs cs
  | [], [], [], _, _, _ => trivial
  | b :: bs, x :: xs, c :: cs, h1, h2, h => ⟨h 0 b x c rfl rfl rfl, All3.mk' bs xs cs (by simpa using h1) (by simpa using h2) (fun i b x c hb hx hc => h (i + 1) b x c (by simpa using hb) (by simpa using hx) (by simpa using hc))⟩
  | [], _ :: _, _, h, _, _ => by simp at h
  | _ :: _, [], _, h, _, _ => by simp at h
  | [], [], _ :: _, _, h, _ => by simp at h
  | _ :: _, _ :: _, [], _, h, _ => by simp at h
theorem choose_list {β γ : Type} {R : Nat → β → γ → Prop} : ∀ (n : Nat), (∀ i, i < n → ∃ b c, R i b c) → ∃ (bs : List β) (cs : List γ), bs.length = n ∧ cs.length = n ∧ ∀ i b c, bs[i]? = some b → cs[i]? = some c → R i b c
  | 0, _ => ⟨[], [], rfl, rfl, by simp⟩
  | n + 1, h => by
    obtain ⟨bs, cs, h1, h2, h3⟩ := choose_list n (fun i hi => h i (by omega))
    obtain ⟨b, c, hbc⟩ := h n (by omega)
    refine ⟨bs ++ [b], cs ++ [c], by simp [h1], by simp [h2], fun i b' c' hb hc => ?_⟩
    by_cases hi : i < n
    · rw [List.getElem?_append_left (by omega)] at hb hc
      exact h3 i b' c' hb hc
    · have hl := (List.getElem?_eq_some_iff.1 hb).1
      have : i = n := by simp [h1] at hl; omega
      subst this
      rw [List.getElem?_append_right (by omega), h1] at hb
      rw [List.getElem?_append_right (by omega), h2] at hc
      simp at hb hc
      subst hb hc
      exact hbc
theorem cells_get {w : World} {base : Nat} {a : Addr} {n : Nat} {cs : List Value} (h : w.cells? base a n = some cs) : cs.length = n ∧ ∀ j u, cs[j]? = some u → w.cell? (a.add j) = some u := by
  unfold World.cells? at h
  split at h
  · have hl := mapM_some_length h
    simp only [List.length_range] at hl
    refine ⟨hl, fun j u hj => ?_⟩
    have hjn : j < n := by have := (List.getElem?_eq_some_iff.1 hj).1; omega
    have := mapM_some_get h j j (by simp [hjn])
    rw [this, hj]
  · cases h
section
variable {P : Program}
theorem Opens.slice {α : Type} {d : Dat α} {t e : TypeId} (ht : P.underlying t = some (.slice e)) (hd : d.sz = P.cellsOf e) (hs : 0 < d.sz) (he : Opens P e d) : Opens P t (sl e d) := by
  intro H enc W base spare held fuel cs x h
  rcases DataW.trod_slice ht h with ⟨rfl, _⟩ | ⟨a, len, cap, elems, rest, n, _, rfl, _, hb, hl, hc, hlen, hel, _⟩
  · exact ⟨[], [], none, 0, [], [], rfl, Nat.le_refl _, by simp [maxLen], trivial, by simp, by simp, fun h => by simp at h⟩
  · have hall : ∀ i, i < len → ∃ (ci : List Value) (y : α), Rd d W y ci ∧ El W (a.add (i * d.sz)) ci := by
      intro i hi
      have h1 := hel i hi
      rw [List.getElem?_eq_getElem (by omega)] at h1
      obtain ⟨ci, hci, htr⟩ := Option.bind_eq_some_iff.1 h1
      obtain ⟨y, hy⟩ := he htr
      rw [← hd] at hci
      exact ⟨ci, y, hy, ⟨(cells_get hci).2⟩⟩
    obtain ⟨inner, xs, hi1, hi2, hR⟩ := choose_list len hall
    have hlt : ∀ k ∈ List.range W.heap.size, k < W.heap.size := fun k hk => List.mem_range.1 hk
    have hF : All3 (d.F W) (List.replicate len (List.range W.heap.size)) xs inner := All3.mk' _ _ _ (by simp [hi2]) (by omega) (fun i b y c hb' hx hc' => by
      obtain ⟨⟨bs, hF⟩, _⟩ := hR i c y hc' hx
      have : b = List.range W.heap.size := (List.mem_replicate.1 (List.mem_of_getElem? hb')).2
      subst this
      exact d.F_mono (fun k hk => List.mem_range.2 (d.F_lt hF k hk)) hlt hF)
    have hcl := hF.cells
    have hfl := flat_len (css := inner) (sz := d.sz) (fun c hc => (hcl c hc).1)
    refine ⟨xs, List.range W.heap.size, some a, cap, _, inner, by rw [hi2], by omega, hc, hF, fun b hb' k hk => by rw [(List.mem_replicate.1 hb').2] at hk; exact hk, hlt, fun h0 => ⟨a, rfl, ?_, fun j u hj => ?_⟩⟩
    · obtain ⟨_, hE⟩ := hR 0 (inner[0]'(by omega)) (xs[0]'(by omega)) (List.getElem?_eq_getElem _) (List.getElem?_eq_getElem _)
      have hc0 := (hcl _ (List.getElem_mem (show 0 < inner.length by omega))).1
      have h1 := hE.at_ 0 _ (List.getElem?_eq_getElem (by omega))
      have h2 := World.block_lt_of_cell? W _ h1
      rw [add_block, add_block] at h2
      exact List.mem_range.2 h2
    · have hj' : j < inner.length * d.sz := by rw [← hfl]; exact (List.getElem?_eq_some_iff.1 hj).1
      have hq : j / d.sz < inner.length := by rw [Nat.div_lt_iff_lt_mul hs]; exact hj'
      have hm : j % d.sz < d.sz := Nat.mod_lt _ hs
      have h1 := flat_at (css := inner) (sz := d.sz) (fun c hc => (hcl c hc).1) (j / d.sz) (j % d.sz) _ (List.getElem?_eq_getElem hq) hm
      rw [Nat.mul_comm, Nat.div_add_mod, hj] at h1
      obtain ⟨_, hE⟩ := hR (j / d.sz) _ (xs[j / d.sz]'(by omega)) (List.getElem?_eq_getElem hq) (List.getElem?_eq_getElem _)
      have h2 := hE.at_ (j % d.sz) u h1.symm
      rw [add_add, Nat.mul_comm, Nat.div_add_mod] at h2
      exact h2
theorem Rd.flat {α : Type} {n : Nat} {enc : α → List Value} {hlen : ∀ x, (enc x).length = n} {hone : ∀ x, ∀ u ∈ enc x, u.oneCell' = true} {w : World} {x : α} : Rd (flat n enc hlen hone) w x (enc x) := ⟨[], rfl, by simp⟩
open Go.Sg in
theorem Opens.int {t : TypeId} (ht : P.underlying t = some (.int .i64)) : Opens P t dInt := by
  intro H enc W base spare held fuel cs x h
  obtain ⟨n, rfl, _⟩ := DataW.trod_int ht h
  exact ⟨n, Rd.flat⟩
open Go.Sg in
theorem Opens.str {t : TypeId} (ht : P.underlying t = some .string) : Opens P t dStr := by
  intro H enc W base spare held fuel cs x h
  obtain ⟨s, rfl, _⟩ := DataW.trod_string ht h
  exact ⟨s, Rd.flat⟩
open Go.Sg in
theorem Opens.frac {t e : TypeId} {f0 f1 : Field} (ht : P.underlying t = some (.struct #[f0, f1])) (h0 : f0.type = e) (h1 : f1.type = e) (o0 : f0.offset = 0) (o1 : f1.offset = 1) (hc : P.cellsOf t = 2) (hce : P.cellsOf e = 1) (he : P.underlying e = some (.int .i64)) : Opens P t dFrac := by
  intro H enc W base spare held fuel cs x h
  obtain ⟨y0, y1, n, _, hl, ht0, ht1⟩ := Go.ChangeShapes.trod_struct2 ht h
  rw [h0, o0, hce] at ht0
  rw [h1, o1, hce] at ht1
  obtain ⟨a, e0, _⟩ := DataW.trod_int he ht0
  obtain ⟨b, e1, _⟩ := DataW.trod_int he ht1
  rw [hc] at hl
  match cs, hl with
  | [c0, c1], _ =>
    simp at e0 e1
    subst e0 e1
    exact ⟨⟨a, b⟩, Rd.flat (x := (⟨a, b⟩ : Frac))⟩
end
end Go.Sx
