/- Words of our own, eighth part: an owned slice with one element taken out (and put back); stores into any element. -/
import Derived.Test.YtcfialfgkkjlfaaA7
set_option linter.unusedSimpArgs false
set_option linter.unusedVariables false
namespace Go.Sx
open Go.RowKit

/-- A datum, or bare cells in its place. -/
def raw {α : Type} (d : Dat α) : Dat (α ⊕ List Value) where
  sz := d.sz
  O := fun w bs x cs => match x with
    | .inl x => d.O w bs x cs
    | .inr c => bs = [] ∧ cs = c ∧ c.length = d.sz ∧ ∀ u ∈ c, u.oneCell' = true
  F := fun w bs x cs => match x with
    | .inl x => d.F w bs x cs
    | .inr c => cs = c ∧ c.length = d.sz ∧ (∀ u ∈ c, u.oneCell' = true) ∧ ∀ k ∈ bs, k < w.heap.size
  F_len := by
    rintro w bs (x | c) cs h
    · exact d.F_len h
    · obtain ⟨rfl, h, _⟩ := h; exact h
  F_one := by
    rintro w bs (x | c) cs h
    · exact d.F_one h
    · obtain ⟨rfl, _, h, _⟩ := h; exact h
  O_F := by
    rintro w bs (x | c) cs h
    · exact d.O_F h
    · obtain ⟨rfl, rfl, h1, h2⟩ := h; exact ⟨rfl, h1, h2, by simp⟩
  O_keep := by
    rintro w w' bs (x | c) cs hk h
    · exact d.O_keep hk h
    · exact h
  F_keep := by
    rintro w w' bs (x | c) cs hk h
    · exact d.F_keep hk h
    · exact ⟨h.1, h.2.1, h.2.2.1, lt_of_keep hk h.2.2.2⟩
  F_mono := by
    rintro w bs bs' (x | c) cs hs hl h
    · exact d.F_mono hs hl h
    · exact ⟨h.1, h.2.1, h.2.2.1, hl⟩
  F_lt := by
    rintro w bs (x | c) cs h
    · exact d.F_lt h
    · exact h.2.2.2

/-- The list with bare cells at place i. -/
def pit {α : Type} (xs : List α) (i : Nat) (c : List Value) : List (α ⊕ List Value) := (xs.map .inl).set i (.inr c)
theorem pit_at {α : Type} {xs : List α} {i : Nat} {c : List Value} (h : i < xs.length) : (pit xs i c)[i]? = some (.inr c) := by simp [pit, h]
theorem pit_len {α : Type} {xs : List α} {i : Nat} {c : List Value} : (pit xs i c).length = xs.length := by simp [pit]
theorem pit_set {α : Type} {xs : List α} {i : Nat} {c c' : List Value} : (pit xs i c).set i (.inr c') = pit xs i c' := by simp [pit]

theorem All3.inl {α : Type} {d : Dat α} {w : World} : ∀ {bss : List (List Nat)} {xs : List α} {inner : List (List Value)}, All3 (d.O w) bss xs inner → All3 ((raw d).O w) bss (xs.map .inl) inner
  | [], [], [], _ => trivial
  | _ :: _, _ :: _, _ :: _, h => ⟨h.1, h.2.inl⟩
  | [], [], _ :: _, h => h.elim
  | [], _ :: _, _, h => h.elim
  | _ :: _, [], _, h => h.elim
  | _ :: _, _ :: _, [], h => h.elim
theorem All3.uninl {α : Type} {d : Dat α} {w : World} : ∀ {bss : List (List Nat)} {xs : List α} {inner : List (List Value)}, All3 ((raw d).O w) bss (xs.map .inl) inner → All3 (d.O w) bss xs inner
  | [], [], [], _ => trivial
  | _ :: _, _ :: _, _ :: _, h => ⟨h.1, All3.uninl h.2⟩
  | [], [], _ :: _, h => h.elim
  | [], _ :: _, _, h => h.elim
  | _ :: _, [], _, h => h.elim
  | _ :: _, _ :: _, [], h => h.elim
theorem All3.unraw {α : Type} {d : Dat α} {w : World} {c : List Value} {by' : List Nat} {y : α} : ∀ (i : Nat) {bss : List (List Nat)} {xs : List α} {inner : List (List Value)}, All3 ((raw d).O w) bss (pit xs i c) inner → i < xs.length → d.O w by' y c →
    bss[i]? = some [] ∧ All3 (d.O w) (bss.set i by') (xs.set i y) inner
  | 0, bss, x :: xs, inner, h, _, hy => by
    match bss, inner, h with
    | b :: bss, c0 :: inner, h =>
      obtain ⟨⟨rfl, rfl, _⟩, h2⟩ := h
      exact ⟨by simp, hy, All3.uninl h2⟩
  | i + 1, bss, x :: xs, inner, h, hi, hy => by
    match bss, inner, h with
    | b :: bss, c0 :: inner, h =>
      obtain ⟨h1, h2⟩ := All3.unraw i (xs := xs) h.2 (by simpa using hi) hy
      exact ⟨by simpa using h1, h.1, h2⟩
  | _, _, [], _, _, hi, _ => by simp at hi
theorem perm_set {β : Type} : ∀ (i : Nat) (bss : List (List β)) (b : List β), bss[i]? = some b → bss.flatten.Perm (b ++ (bss.set i []).flatten)
  | _, [], b, h => by simp at h
  | 0, b0 :: bss, b, h => by simp at h; subst h; simp
  | i + 1, b0 :: bss, b, h => by
    simp only [List.set_cons_succ, List.flatten_cons]
    refine (List.Perm.append_left _ (perm_set i bss b (by simpa using h))).trans ?_
    rw [← List.append_assoc, ← List.append_assoc]
    exact List.Perm.append_right _ List.perm_append_comm
theorem perm_set' {β : Type} (i : Nat) (bss : List (List β)) (b : List β) (h : bss[i]? = some []) : (b ++ bss.flatten).Perm (bss.set i b).flatten := by
  have hl : i < bss.length := (List.getElem?_eq_some_iff.1 h).1
  refine List.Perm.symm ((perm_set i (bss.set i b) b (by simp [hl])).trans ?_)
  have : (bss.set i b).set i [] = bss := by
    rw [List.set_set]
    apply List.ext_getElem?
    intro j
    by_cases hj : i = j
    · subst hj; rw [List.getElem?_set_self (by simpa using hl), h]
    · simp [hj]
  rw [this]
theorem St.re {M : List Nat} {w0 w : World} {H H' : List Res} (S : St M w0 w H) (hp : (feet H).Perm (feet H')) (ha : ∀ r ∈ H', r.holds w) : St M w0 w H' :=
  ⟨S.chg, ha, hp.nodup_iff.1 S.nod, fun k hk => S.lo k (hp.mem_iff.2 hk), fun k hk => S.hi k (hp.mem_iff.2 hk)⟩

section
variable {α : Type} {e : Nat} {d : Dat α} {M : List Nat} {w0 w : World} {H Hk : List Res} {v : Value} {xs : List α} {bs : List Nat}
/-- Element i is taken out: a datum by itself; in its place its bare cells. -/
theorem St.open (S : St M w0 w H) (hsp : Split H [own e d v xs bs] Hk) (i : Nat) {y : α} (hi : xs[i]? = some y) :
    ∃ ci by' bo, ci.length = d.sz ∧ d.O w by' y ci ∧ St M w0 w (dat d ci y by' :: own e (raw d) v (pit xs i ci) bo :: Hk) := by
  have hO : slO e d w bs xs [v] := S.all (own e d v xs bs) ((hsp.mem _).2 (.inl (by simp)))
  obtain ⟨v', bss, inner, hv, hbs, hr, ha⟩ := hO
  injection hv with hv _
  subst hv
  obtain ⟨b, ci, hb, hci, hx⟩ := ha.get i y hi
  have hlt : i < xs.length := (List.getElem?_eq_some_iff.1 hi).1
  refine ⟨ci, b, ownB v ++ (bss.set i []).flatten, d.F_len (d.O_F hx), hx, S.re ?_ ?_⟩
  · refine hsp.perm.trans ?_
    simp only [feet_cons, feet_nil, dat, List.append_nil, hbs]
    rw [← List.append_assoc]
    refine List.Perm.append_right _ ?_
    refine (List.Perm.append_left _ (perm_set i bss b hb)).trans ?_
    rw [← List.append_assoc, ← List.append_assoc]
    exact List.Perm.append_right _ List.perm_append_comm
  · intro r hr'
    rcases List.mem_cons.1 hr' with rfl | hr'
    · exact hx
    rcases List.mem_cons.1 hr' with rfl | hr'
    · refine ⟨v, bss.set i [], inner, rfl, rfl, by rw [pit_len]; exact hr, ?_⟩
      have h := ha.inl.set i (b := []) (x := .inr ci) (c := ci) (show (raw d).O w [] (.inr ci) ci from ⟨rfl, rfl, d.F_len (d.O_F hx), d.F_one (d.O_F hx)⟩)
      have hin : inner.set i ci = inner := by
        apply List.ext_getElem?
        intro j
        by_cases hj : i = j
        · subst hj; rw [List.getElem?_set_self (List.getElem?_eq_some_iff.1 hci).1, hci]
        · rw [List.getElem?_set_ne hj]
      rw [hin] at h
      exact h
    · exact S.all r ((hsp.mem r).2 (.inr hr'))
/-- Put back. -/
theorem St.close {ci : List Value} {y : α} {by' : List Nat} {i : Nat} (S : St M w0 w H) (hsp : Split H [dat d ci y by', own e (raw d) v (pit xs i ci) bs] Hk) (hi : i < xs.length) :
    ∃ bs', St M w0 w (own e d v (xs.set i y) bs' :: Hk) := by
  have hy : d.O w by' y ci := S.all (dat d ci y by') ((hsp.mem _).2 (.inl (by simp)))
  have hO : slO e (raw d) w bs (pit xs i ci) [v] := S.all (own e (raw d) v (pit xs i ci) bs) ((hsp.mem _).2 (.inl (by simp)))
  obtain ⟨v', bss, inner, hv, hbs, hr, ha⟩ := hO
  injection hv with hv _
  subst hv
  obtain ⟨h1, h2⟩ := All3.unraw i ha hi hy
  refine ⟨ownB v ++ (bss.set i by').flatten, S.re ?_ ?_⟩
  · refine hsp.perm.trans ?_
    simp only [feet_cons, feet_nil, dat, List.append_nil, hbs]
    refine List.Perm.append_right _ ?_
    refine List.Perm.trans ?_ (List.Perm.append_left _ (perm_set' i bss by' h1))
    rw [← List.append_assoc, ← List.append_assoc]
    exact List.Perm.append_right _ List.perm_append_comm
  · intro r hr'
    rcases List.mem_cons.1 hr' with rfl | hr'
    · refine ⟨v, bss.set i by', inner, rfl, rfl, ?_, h2⟩
      rw [pit_len] at hr
      rw [List.length_set]
      exact hr
    · exact S.all r ((hsp.mem r).2 (.inr hr'))
theorem nodup_foot {H : List Res} {r : Res} (h : (feet H).Nodup) (hm : r ∈ H) : r.foot.Nodup := by
  induction H with
  | nil => cases hm
  | cons x H ih =>
    have h' := List.nodup_append.1 h
    rcases List.mem_cons.1 hm with rfl | hm
    · exact h'.1
    · exact ih h'.2.1 hm
end
section
variable {P : Program} {ops : Array Oper} {rest : List Oper} {a : Act} {Q : Exit → Act → World → Prop} {M : List Nat} {w0 w : World} {H H' Hk : List Res} {α : Type} {e : Nat} {d : Dat α}
variable {dd t ty : Nat} {pos : String} {aft : Array Edge} {gg : Option (Nat × Bool)} {x y ix p : Operand} {z : Value} {n bytes : Nat} {v : Value} {xs : List α} {bs : List Nat} {cs vs : List Value}
/-- A store into an element of an owned slice of any data (its rows stay). -/
theorem s_stG {x0 y0 : α} {i off : Nat} {ad : Addr} [hi : TI P t z n bytes] (S : St M w0 w H)
    (hu : Upd H (own e d v xs bs) (own e d v (xs.set i y0) bs) H') (hp : a.eval p = .pointer (some ad)) (hA : At v (i * d.sz + off) ad) (hx : xs[i]? = some x0) (hy : (a.eval y).cells = vs.toArray)
    (hs : ∀ w b c, d.O w b x0 c → ∃ c', Spl c off vs c' ∧ d.O w b y0 c') (hn : vs.length = n) (hv1 : ∀ u ∈ vs, u.oneCell' = true)
    (h : ∀ w', St M w0 w' H' → wpList P ops Q rest a w') (hgg : Region.wanted ⟨none, .store t p y, ty, pos, aft, gg⟩ (yielded ops a.tmps) = true := by with_unfolding_all rfl) : wpList P ops Q (⟨none, .store t p y, ty, pos, aft, gg⟩ :: rest) a w := by
  subst hn
  have hO : slO e d w bs xs [v] := S.all _ hu.mem
  obtain ⟨v', bss, inner, hv, hbs, hr, ha⟩ := hO
  injection hv with hv _
  subst hv
  have hlt : i < xs.length := (List.getElem?_eq_some_iff.1 hx).1
  obtain ⟨b, ci, hb, hci, hxe⟩ := ha.get i x0 hx
  obtain ⟨c', hspl, hy0⟩ := hs w b ci hxe
  obtain ⟨g, n1, c1, rfl, rfl⟩ := hA.eq
  rcases hr.2 with ⟨hno, _⟩ | ⟨g', cap, cur, hg', _, hg, hn, hc, hsz, ht⟩
  · cases hno
  · injection hg' with e1 e2 e3
    injection e1 with e1
    injection e1 with e1
    subst e1 e2 e3
    have hl := ha.O_F.cells
    have hfl := flat_len (css := inner) (sz := d.sz) (fun c hc => (hl c hc).1)
    have hil : inner.length = xs.length := ha.len.2
    obtain ⟨hs1, hs2⟩ := hspl.eq
    have hcl' : ci.length = d.sz := (hl ci (List.mem_of_getElem? hci)).1
    have hm1 : i * d.sz + d.sz ≤ xs.length * d.sz := by rw [← Nat.succ_mul]; exact Nat.mul_le_mul_right _ hlt
    have hm2 : xs.length * d.sz ≤ c1 * d.sz := Nat.mul_le_mul_right _ hn
    have hcz : cur.size = c1 * d.sz := hsz
    have hoff : off + vs.length ≤ d.sz := by rw [← hcl']; exact hs1
    have hfit : i * d.sz + off + 0 + vs.length ≤ cur.size := by rw [hcz]; omega
    have hst := run_storeCells_at P g (i * d.sz + off) e vs 0 cur w hg hfit hv1
    simp only [Nat.add_zero] at hst
    obtain ⟨i0, hi1, _, hi3, _⟩ := hi.get
    have hz' : (sizeOf t).run P w = .ok vs.length w := by simp [sizeOf, typeInfo, go_sem, hi1, hi3]
    have hrun : (execOp a.eval ⟨none, .store t p y, ty, pos, aft, gg⟩).run P w = .ok .skip (w.setRow g (cur.toList.take (i * d.sz + off) ++ vs ++ cur.toList.drop (i * d.sz + off + vs.length)).toArray) := by
      simp only [execOp, Instr.storeAt, hp, Instr.sureAddr, storeVar, Sem.run_bind, Sem.run_pure, hz', Result.andThen_ok, hy, List.size_toArray, ne_eq, not_true_eq_false, if_false]
      simp only [Result.andThen_ok, hst]
    have hgb : bs = g :: bss.flatten := by rw [hbs]; rfl
    have hnd : bs.Nodup := nodup_foot S.nod hu.mem
    rw [hgb] at hnd
    have hng : ∀ b ∈ bss, g ∉ b := fun b hb hgb => (List.nodup_cons.1 hnd).1 (List.mem_flatten.2 ⟨b, hb, hgb⟩)
    refine BigFrame.wpList_want hgg fun K hK => ?_
    unfold Oper.wp
    rw [hrun, Oper.upon_skip]
    have hoth : ∀ b ∈ bss, ∀ k ∈ b, (w.setRow g (cur.toList.take (i * d.sz + off) ++ vs ++ cur.toList.drop (i * d.sz + off + vs.length)).toArray).heap[k]? = w.heap[k]? :=
      fun b hb k hk => setRow_other w g k _ (fun e1 => hng b hb (e1 ▸ hk))
    refine hK _ _ (h _ (S.put hu rfl (r := own e d (.slice (some ⟨g, 0, none⟩) xs.length c1) xs bs) ?_ ?_))
    · exact ⟨rfl, rfl, rfl, by simp, fun k _ hk => setRow_other w g k _ (fun e1 => hk (by show k ∈ bs; rw [hgb, e1]; simp))⟩
    · refine ⟨_, bss, inner.set i c', rfl, hbs, ⟨?_, .inr ⟨g, c1, _, by simp, Nat.zero_le _, setRow_heap w g cur _ e _ hg, by simpa using hn, hc, ?_, ?_⟩⟩, ?_⟩
      · have := flat_len (css := inner.set i c') (sz := d.sz) (fun c hc => by
          rcases List.mem_or_eq_of_mem_set hc with hc | rfl
          · exact (hl c hc).1
          · exact d.F_len (d.O_F hy0))
        simpa [hil] using this
      · show _ = c1 * d.sz
        rw [← hcz]
        simp only [List.size_toArray, List.length_append, List.length_take, List.length_drop, Array.length_toList]
        omega
      · rw [flat_set (fun c hc => (hl c hc).1) i off _ vs _ hci hspl, ← ht]
        show ((cur.toList.take (i * d.sz + off) ++ vs ++ cur.toList.drop (i * d.sz + off + vs.length)).toArray).toList.take ((xs.set i y0).length * d.sz) = List.take (i * d.sz + off) (cur.toList.take (xs.length * d.sz)) ++ vs ++ List.drop (i * d.sz + off + vs.length) (cur.toList.take (xs.length * d.sz))
        have hcl : cur.toList.length = c1 * d.sz := by simp [hcz]
        rw [List.length_set]
        exact take_spl _ _ _ _ (by omega) (by omega)
      · have h4 := ha.set i (b := b) (x := y0) (c := c') hy0
        have hbi : bss.set i b = bss := by
          apply List.ext_getElem?
          intro j
          by_cases hj : j = i
          · subst hj
            have := List.getElem?_eq_some_iff.1 hb
            rw [List.getElem?_set_self this.1, hb]
          · rw [List.getElem?_set_ne (fun h => hj h.symm)]
        rw [hbi] at h4
        exact h4.imp (fun b x c hb h => d.O_keep (hoth b hb) h)
/-- A store of a whole element into the pit. -/
theorem s_stP {i : Nat} {ad : Addr} {ci : List Value} [hi : TI P t z n bytes] (S : St M w0 w H) (hu : Upd H (own e (raw d) v (pit xs i ci) bs) (own e (raw d) v (pit xs i vs) bs) H') (hp : a.eval p = .pointer (some ad)) (hA : At v (i * d.sz) ad) (hl : i < xs.length)
    (hy : (a.eval y).cells = vs.toArray) (hn : vs.length = n) (hn2 : d.sz = n) (hv1 : ∀ u ∈ vs, u.oneCell' = true)
    (h : ∀ w', St M w0 w' H' → wpList P ops Q rest a w') (hgg : Region.wanted ⟨none, .store t p y, ty, pos, aft, gg⟩ (yielded ops a.tmps) = true := by with_unfolding_all rfl) : wpList P ops Q (⟨none, .store t p y, ty, pos, aft, gg⟩ :: rest) a w := by
  have hu' : Upd H (own e (raw d) v (pit xs i ci) bs) (own e (raw d) v ((pit xs i ci).set i (.inr vs)) bs) H' := by rw [pit_set]; exact hu
  refine s_stG (d := raw d) (x0 := .inr ci) (y0 := .inr vs) (off := 0) S hu' hp hA (pit_at hl) hy ?_ hn hv1 h hgg
  rintro w b c ⟨rfl, rfl, h1, h2⟩
  exact ⟨vs, Spl.whole (by omega), rfl, rfl, by omega, hv1⟩
end
theorem slO_nil' {α : Type} {e : Nat} {d : Dat α} {w : World} : (sl e d).O w [] [] [.slice none 0 0] := ⟨_, [], [], rfl, rfl, ⟨by simp, .inl ⟨rfl, rfl⟩⟩, trivial⟩
section
variable {P : Program} {ops : Array Oper} {rest : List Oper} {a : Act} {Q : Exit → Act → World → Prop} {M : List Nat} {w0 w : World} {H : List Res} {α : Type} {e : Nat} {d : Dat α}
variable {dd t ty : Nat} {pos : String} {aft : Array Edge} {gg : Option (Nat × Bool)} {x y ix p : Operand} {z : Value} {n bytes : Nat} {v : Value} {xs : List α} {bs : List Nat}
theorem El.step {w w' : World} {ad : Addr} {cs : List Value} (h : El w ad cs) (hc : Chg [] w w') : El w' ad cs := ⟨fun j u hj => hc.cell (h.at_ j u hj)⟩
theorem At.of {g n c k : Nat} : At (.slice (some ⟨g, 0, none⟩) n c) k ((⟨g, 0, none⟩ : Addr).add k) :=
  ⟨g, n, c, rfl, by unfold Addr.add; split <;> simp_all⟩
theorem At.at_ {g n c k : Nat} : At (.slice (some ⟨g, 0, none⟩) n c) k ⟨g, k, none⟩ := ⟨g, n, c, rfl, rfl⟩
theorem run_idxS {ad : Addr} {m c : Nat} {i : Int} {k : IntKind} [ht : SlT P t e] [hi : TI P e z n bytes] (f : Operand → Value) (hs : f x = .slice (some ad) m c) (hix : f ix = .int k i) (h0 : 0 ≤ i) (h1 : i < m) (w : World) :
    (execOp f ⟨some dd, .indexAddr t x ix, ty, pos, aft, gg⟩).run P w = .ok (.value (.pointer (some (ad.add (i.toNat * n))))) w := by
  obtain ⟨i0, hi1, _, hi3, _⟩ := hi.get
  simp only [execOp, hs, hix, Instr.indexAt]
  simp [asIntOf, run_underlying ht.eq, sizeOf, typeInfo, hi1, hi3, h0, h1, Sem.run_bind]
theorem s_idxS {ad : Addr} {m c : Nat} {i : Int} {k : IntKind} [ht : SlT P t e] [hi : TI P e z n bytes]
    (h : wpList P ops Q rest (a.put (some dd) (.pointer (some (ad.add (i.toNat * n))))) w) (hs : a.eval x = .slice (some ad) m c := by with_unfolding_all rfl) (hix : a.eval ix = .int k i := by with_unfolding_all rfl) (h0 : 0 ≤ i := by omega) (h1 : i < m := by omega)
    (hg : Region.wanted ⟨some dd, .indexAddr t x ix, ty, pos, aft, gg⟩ (yielded ops a.tmps) = true := by with_unfolding_all rfl) : wpList P ops Q (⟨some dd, .indexAddr t x ix, ty, pos, aft, gg⟩ :: rest) a w :=
  s_val hg (run_idxS _ hs hix h0 h1 w) h
theorem y_idxS {V : World → Prop} {ad : Addr} {m c : Nat} {i : Int} {k : IntKind} [ht : SlT P t e] [hi : TI P e z n bytes]
    (hs : a.eval x = .slice (some ad) m c := by with_unfolding_all rfl) (hix : a.eval ix = .int k i := by with_unfolding_all rfl) (h0 : 0 ≤ i := by omega) (h1 : i < m := by omega)
    (hg : Region.wanted ⟨some dd, .indexAddr t x ix, ty, pos, aft, gg⟩ (yielded ops a.tmps) = true := by with_unfolding_all rfl) : YieldsIf P ops V ⟨some dd, .indexAddr t x ix, ty, pos, aft, gg⟩ (.pointer (some (ad.add (i.toNat * n)))) a :=
  y_pure (fun w' => run_idxS _ hs hix h0 h1 w') hg
/-- Element i of a slice that reads, the slice's value told. -/
theorem Rd.getS {A : Option Addr} {m c : Nat} (h : Rd (sl e d) w xs [.slice A m c]) (i : Nat) (x : α) (hi : xs[i]? = some x) : ∃ ad ci, A = some ad ∧ m = xs.length ∧ Rd d w x ci ∧ El w (ad.add (i * d.sz)) ci := by
  obtain ⟨ad, c', ci, hv, h1, h2⟩ := h.get i x hi
  injection hv with e1 e2 e3
  exact ⟨ad, ci, e1, e2, h1, h2⟩
/-- Element i of an owned slice, its value told. -/
theorem own_getS {A : Option Addr} {m c : Nat} (S : St M w0 w H) (hm : own e d (.slice A m c) xs bs ∈ H) (i : Nat) (x : α) (hi : xs[i]? = some x) :
    ∃ g bx ci, A = some ⟨g, 0, none⟩ ∧ m = xs.length ∧ d.O w bx x ci ∧ El w ((⟨g, 0, none⟩ : Addr).add (i * d.sz)) ci := by
  obtain ⟨g, c', bx, ci, hv, h1, _, h2⟩ := own_get S hm i x hi
  injection hv with e1 e2 e3
  refine ⟨g, bx, ci, e1, e2, h1, ?_⟩
  have hadd : (⟨g, 0, none⟩ : Addr).add (i * d.sz) = ⟨g, i * d.sz, none⟩ := by unfold Addr.add; split <;> simp_all
  rw [hadd]; exact h2
theorem St.nilOwn (S : St M w0 w H) : St M w0 w [own e d (.slice none 0 0) [] []] := by
  have S2 := S.drop (Hr := H) (Hk := []) (by induction H with | nil => exact .nil | cons _ _ ih => exact .take (ih ⟨S.chg, fun r hr => S.all r (List.mem_cons_of_mem _ hr), (List.nodup_append.1 S.nod).2.1, fun k hk => S.lo k (by simp [hk]), fun k hk => S.hi k (by simp [hk])⟩))
  exact S2.flatDat slO_nil'
theorem sl_one {w : World} {ci : List Value} (h : Rd (sl e d) w xs ci) : ∃ v, ci = [v] := by
  obtain ⟨bs, A, c, bss, inner, rfl, _⟩ := h
  exact ⟨_, rfl⟩
theorem slO_one {w : World} {ci : List Value} (h : (sl e d).O w bs xs ci) : ∃ v, ci = [v] := by
  obtain ⟨v, bss, inner, rfl, _⟩ := h
  exact ⟨_, rfl⟩
theorem own_one (S : St M w0 w H) (hm : own e d v xs bs ∈ H) : v.oneCell' = true := by
  have h : slO e d w bs xs [v] := S.all _ hm
  exact (sl e d).F_one ((sl e d).O_F h) v (by simp)
theorem At.at1 {g n c k : Nat} : At (.slice (some ⟨g, 0, none⟩) n c) (k * 1) ⟨g, k, none⟩ := ⟨g, n, c, rfl, by simp⟩
theorem El.at1 {g k : Nat} {w : World} {cs : List Value} (h : El w ((⟨g, 0, none⟩ : Addr).add (k * 1)) cs) : El w ⟨g, k, none⟩ cs := by
  have e : (⟨g, 0, none⟩ : Addr).add (k * 1) = ⟨g, k, none⟩ := by unfold Addr.add; split <;> simp_all
  rwa [e] at h
theorem own_slice (S : St M w0 w H) (hm : own e d v xs bs ∈ H) : ∃ A c, v = .slice A xs.length c ∧ xs.length ≤ c ∧ c ≤ maxLen := by
  have h := S.own_rd hm
  exact h.slice
end
end Go.Sx
