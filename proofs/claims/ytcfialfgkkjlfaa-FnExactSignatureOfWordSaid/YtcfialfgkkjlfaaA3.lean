/- Words of our own, third part: rules for operations on slices that the run owns, and on slices that it reads. -/
import Derived.Test.YtcfialfgkkjlfaaA2
set_option linter.unusedSimpArgs false
set_option linter.unusedVariables false
namespace Go.Sx
open Go.RowKit

theorem St.perm {M : List Nat} {w0 w : World} {H H' : List Res} (S : St M w0 w H) (h : H.Perm H') : St M w0 w H' := by
  have hf : (feet H).Perm (feet H') := h.flatMap_right _
  exact ⟨S.chg, fun r hr => S.all r (h.mem_iff.2 hr), hf.nodup_iff.1 S.nod, fun k hk => S.lo k (hf.mem_iff.2 hk), fun k hk => S.hi k (hf.mem_iff.2 hk)⟩
theorem St.swap {M : List Nat} {w0 w : World} {r s : Res} {H : List Res} (S : St M w0 w (r :: s :: H)) : St M w0 w (s :: r :: H) := S.perm (List.Perm.swap _ _ _)
/-- A datum without rows may be laid beside. -/
theorem St.flatDat {α : Type} {d : Dat α} {M : List Nat} {w0 w : World} {H : List Res} {cs : List Value} {x : α} (S : St M w0 w H) (h : d.O w [] x cs) : St M w0 w (dat d cs x [] :: H) :=
  ⟨S.chg, fun r hr => by
    rcases List.mem_cons.1 hr with rfl | hr
    · exact h
    · exact S.all r hr, by simpa [dat] using S.nod, by simpa [dat] using S.lo, by simpa [dat] using S.hi⟩
/-- A slice type and its elements' type. -/
class SlT (P : Program) (t : TypeId) (e : outParam TypeId) : Prop where eq : P.underlying t = some (.slice e)
theorem El.of_cel {M : List Nat} {w0 w : World} {H : List Res} {b : Nat} {cs : List Value} {t : TypeId} (S : St M w0 w H) (hm : cel b cs t ∈ H) : El w ⟨b, 0, none⟩ cs :=
  ⟨fun j u hj => by
    have hb : w.heap[b]? = some (.cells cs.toArray t (0, 0)) := S.all _ hm
    have hadd : (⟨b, 0, none⟩ : Addr).add j = ⟨b, j, none⟩ := by unfold Addr.add; split <;> simp_all
    rw [hadd, cell_of_row w b j _ t _ hb]
    simpa using hj⟩
theorem ownB_slice {w : World} {base : Nat} {e : TypeId} {size n : Nat} {v : Value} {xs : List Value} (h : w.ownsRow base e size v n xs) : ∃ A c, v = .slice A n c := by
  rcases h.2 with ⟨rfl, rfl⟩ | ⟨g, cap, cur, rfl, _⟩
  · exact ⟨none, 0, rfl⟩
  · exact ⟨_, cap, rfl⟩
theorem nodup_own {v : Value} : (ownB v).Nodup := by unfold ownB; cases v.ownBlock <;> simp

section
variable {P : Program} {w : World}
/-- append(v, x): the row grows by one datum. -/
theorem append_core {α : Type} {e : Nat} {d : Dat α} {t ty : TypeId} {z : Value} {n bytes c0 : Nat} {v : Value} {xs : List α} {x : α} {bs bx : List Nat} {cs : List Value} {ad : Addr}
    (ht : SlT P t e) (hi : TI P e z n bytes) (hn : d.sz = n) (hn0 : 0 < n) (S : St (feet [dat d cs x bx, own e d v xs bs]) w w [dat d cs x bx, own e d v xs bs]) (hE : El w ad cs) (hl : (xs.length + 1) * bytes ≤ 140737488355328) (hb0 : 0 < bytes) :
    ∃ A' c' w' bs', (Builtin.append_ #[t, t] ty #[v, .slice (some ad) 1 c0]).run P w = .ok (.slice A' (xs.length + 1) c') w' ∧ St (feet [dat d cs x bx, own e d v xs bs]) w w' [own e d (.slice A' (xs.length + 1) c') (xs ++ [x]) bs'] := by
  subst hn
  obtain ⟨i, hi1, hi2, hi3, hi4⟩ := hi.get
  have hO : slO e d w bs xs [v] := S.all (own e d v xs bs) (by simp)
  have hx : d.O w bx x cs := S.all (dat d cs x bx) (by simp)
  obtain ⟨v', bss, inner, hv, hbs, hr, ha⟩ := hO
  injection hv with hv _
  subst hv
  have hcl := d.F_len (d.O_F hx)
  have hmax : xs.length + 1 ≤ maxLen := by simp only [maxLen]; have := Nat.le_trans (Nat.le_mul_of_pos_right (xs.length + 1) hb0) hl; omega
  obtain ⟨v1, w1, hrun, hown, hg, _, hat⟩ := run_append_own_at (P := P) w 0 t ty e i z d.sz bytes ht.eq hi1 hi2 hi3 hi4 hi.sz hn0 v xs.length inner.flatten hr ad 1 c0 cs (by omega) hE.at_ (d.F_one (d.O_F hx)) hmax hl (Nat.zero_le _)
  obtain ⟨A', c', rfl⟩ := ownB_slice hown
  have hnod := S.nod
  simp only [feet_cons, feet_nil, List.append_nil, dat] at hnod
  rw [hbs] at hnod
  obtain ⟨hn1, hn2, hn3⟩ := List.nodup_append.1 hnod
  obtain ⟨hn4, hn5, hn6⟩ := List.nodup_append.1 hn2
  have hlt : ∀ k ∈ bx ++ (ownB v ++ bss.flatten), k < w.heap.size := fun k hk => S.hi k (by simp only [feet_cons, feet_nil, dat, List.append_nil, hbs]; exact hk)
  have hkeep : ∀ k, k < w.heap.size → k ∉ ownB v → w1.heap[k]? = w.heap[k]? := fun k hk hn => hg.block k hk (fun e1 => hn (by simp [ownB, ← e1]))
  have hnb : ∀ k ∈ ownB (.slice A' (xs.length + 1) c'), k ∈ ownB v ∨ k = w.heap.size := fun k hk => by
    have hk' : (Value.slice A' (xs.length + 1) c').ownBlock = some k := by simpa [ownB] using hk
    rcases hat with hat | hat
    · exact .inl (by rw [hat] at hk'; simp [ownB, hk'])
    · exact .inr (by rw [hat] at hk'; simpa using hk'.symm)
  refine ⟨A', c', w1, ownB (.slice A' (xs.length + 1) c') ++ (bss ++ [bx]).flatten, hrun, ⟨⟨hg.os, hg.tape, hg.output, hg.size, fun k hk hM => hkeep k hk (fun hkv => hM ?_)⟩, ?_, ?_, ?_, ?_⟩⟩
  · simp only [feet_cons, feet_nil, dat, List.append_nil, hbs]
    simp [hkv]
  · intro r hr'
    rw [List.mem_singleton.1 hr']
    refine ⟨_, bss ++ [bx], inner ++ [cs], rfl, rfl, ?_, ?_⟩
    · simpa using hown
    · refine All3.append (ha.imp (fun b y c hb h => d.O_keep (fun k hk => ?_) h)) (d.O_keep (fun k hk => ?_) hx)
      · have hkf : k ∈ bss.flatten := List.mem_flatten.2 ⟨b, hb, hk⟩
        exact hkeep k (hlt k (by simp [List.mem_flatten.1 hkf])) (fun h1 => hn6 k h1 k hkf rfl)
      · exact hkeep k (hlt k (by simp [hk])) (fun h1 => hn3 k hk k (by simp [h1]) rfl)
  · simp only [feet_cons, feet_nil, dat, List.append_nil, List.flatten_append, List.flatten_cons, List.flatten_nil]
    refine List.nodup_append.2 ⟨nodup_own, List.nodup_append.2 ⟨hn5, hn1, fun a h1 b h2 e1 => hn3 b h2 a (by simp [List.mem_flatten.1 h1]) e1.symm⟩, fun a h1 b h2 e1 => ?_⟩
    subst e1
    have hlta : a < w.heap.size := by
      rcases List.mem_append.1 h2 with h2 | h2
      · exact hlt a (by simp [List.mem_flatten.1 h2])
      · exact hlt a (by simp [h2])
    rcases hnb a h1 with h1 | h1
    · rcases List.mem_append.1 h2 with h2 | h2
      · exact hn6 a h1 a h2 rfl
      · exact hn3 a h2 a (by simp [h1]) rfl
    · omega
  · intro k hk
    simp only [feet_cons, feet_nil, dat, List.append_nil, List.flatten_append, List.flatten_cons, List.flatten_nil, hbs] at hk ⊢
    rcases List.mem_append.1 hk with hk | hk
    · rcases hnb k hk with hk | hk
      · left; simp [hk]
      · right; omega
    · left
      rcases List.mem_append.1 hk with hk | hk
      · simp [List.mem_flatten.1 hk]
      · simp [hk]
  · intro k hk
    simp only [feet_cons, feet_nil, dat, List.append_nil, List.flatten_append, List.flatten_cons, List.flatten_nil] at hk
    rcases List.mem_append.1 hk with hk | hk
    · exact own_lt' hown k hk
    · refine Nat.lt_of_lt_of_le (hlt k ?_) hg.size
      rcases List.mem_append.1 hk with hk | hk
      · simp [List.mem_flatten.1 hk]
      · simp [hk]
end
end Go.Sx
